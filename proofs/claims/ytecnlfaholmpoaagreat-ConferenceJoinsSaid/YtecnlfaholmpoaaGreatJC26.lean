/- conference.moved: the walk. The comparisons of clauses: which of two children comes first; which of two clauses is joined first. Which of two clauses is joined first. Stable sorting in plain words. Rows of clauses, sorted: what the kit's sort says, in words of rows. -/
import Derived.Test.YtecnlfaholmpoaaGreatJC25
import Derived.Test.YtecnlfaholmpoaaGreatJC14
import Derived.Test.YtecnlfaholmpoaaGreatJC13
import Derived.Test.YtecnlfaholmpoaaGreatJC12
import Derived.Shelf.SlSortCmp.InsertionK
import Derived.Sort.LotA
import Derived.Sort.Lot0
import Derived.Test.YtecnlfaholmpoaaGreatJC22
import Derived.Shelf.SlSortCmp.WholeK
set_option linter.unusedVariables false
set_option linter.unusedSimpArgs false
set_option maxRecDepth 20000
set_option maxHeartbeats 4000000
namespace Go.Proofs.YtecnlfaholmpoaaGreat
open Go.RowKit
theorem moved_any (l : List Clause) (A : Option Addr) (c : Nat) (d : Int) (w : World) (hr : RdC w A l) (hl : l.length ≤ 1000) (hd : 0 ≤ d ∧ d ≤ 100) :
 Calls Tryz.prog 38 #[.slice A l.length c, .int .i64 d] w fun e w' => ((seatsB l = true ∧ ∃ v, e = .returned (.tuple #[v, .bool true]) ∧ OwnCs w' w.heap.size v (l.map (mv d))) ∨ (seatsB l = false ∧ e = .returned (.tuple #[.slice none 0 0, .bool false]))) ∧ Below w.heap.size w w' := by
 have HR := Lib.hid hr; clear hr
 go_enter Tryz.func38, Tryz.ntmps38
 go_wp2_with fail
 refine (clone_clas l A c _ HR.out (by omega)).mono ?_
 rintro e w1 ⟨v, rfl, hv, hb⟩
 obtain ⟨A1, c1, rfl, hlc, hc1, hrd⟩ := hv.reads
 have HV := Lib.hid hv; clear hv hrd
 have HB := Lib.hid hb; clear hb
 go_wp2_with fail
 go_loopw [14] (fun i wr => ∃ k : Nat, k ≤ l.length ∧ i = .int .i64 k ∧ seatsB (l.take k) = true ∧ OwnCs wr w.heap.size (.slice A1 l.length c1) (mvRow d l k) ∧ Below w.heap.size w wr) (fun i _ => l.length - (intOf i).toNat)
 case atStart => exact ⟨0, Nat.zero_le _, rfl, by simp [seatsB], by simpa [mvRow] using HV.out, HB.out⟩
 case round =>
  obtain ⟨k, hk, rfl, hsk, hown, hb⟩ := hrel
  have HS := Lib.hid hsk; clear hsk
  have HO := Lib.hid hown; clear hown
  have HB1 := Lib.hid hb; clear hb
  by_cases hlt : k < l.length
  · obtain ⟨x, hx⟩ := get_of_lt hlt
    have hi1 : (k : Int) < l.length := by omega
    have hi0 : (0 : Int) ≤ k := by omega
    obtain ⟨b, rfl, hbase⟩ : ∃ b, A1 = some ⟨b, 0, none⟩ ∧ w.heap.size ≤ b := by
     rcases HO.out.2 with ⟨hv, h0⟩ | ⟨g, cap', cur, hv, r2, _⟩
     · rw [mvRow_len] at h0; omega
     · simp only [Value.slice.injEq] at hv; exact ⟨g, hv.1, r2⟩
    go_wp2_with fail
    refine wp_region_held_drew (S := fun _ : World => True) (by kernel_rfl) trivial (fun hHeld => ?_)
    refine takeF (i := 0) (v := .slice (some ⟨b, 0, none⟩) l.length c1) (k := 17) rfl rfl (by kernel_rfl) (by kernel_rfl) (by kernel_rfl) (fun _ _ _ h => h) (Or.inl ⟨by rfl, fun z hz => by go_simp⟩) hHeld ?_
    try simp only [Act.put, sia, sc0, scs]
    refine takeF (i := 1) (v := .int .i64 k) (k := 18) rfl rfl (by kernel_rfl) (by kernel_rfl) (by kernel_rfl) (fun _ _ _ h => h) (Or.inl ⟨by rfl, fun z hz => by go_simp⟩) hHeld ?_
    try simp only [Act.put, sia, sc0, scs]
    refine takeF (i := 2) (v := .pointer (some ⟨b, k * 20, none⟩)) (k := 19) rfl rfl (by kernel_rfl) (by kernel_rfl) (by kernel_rfl) (fun _ _ _ h => h) (Or.inl ⟨by rfl, fun z hz => by go_simp⟩) hHeld ?_
    try simp only [Act.put, sia, sc0, scs]
    refine takeF (i := 3) (v := .pointer (some ⟨b, k * 20, none⟩)) (k := 20) rfl rfl (by kernel_rfl) (by kernel_rfl) (by kernel_rfl) (fun _ _ _ h => h) (Or.inl ⟨by rfl, fun z hz => by go_simp⟩) hHeld ?_
    try simp only [Act.put, sia, sc0, scs]
    refine takeF (i := 4) (v := .slice (some ⟨b, 0, none⟩) l.length c1) (k := 21) rfl rfl (by kernel_rfl) (by kernel_rfl) (by kernel_rfl) (fun _ _ _ h => h) (Or.inl ⟨by rfl, fun z hz => by go_simp⟩) hHeld ?_
    try simp only [Act.put, sia, sc0, scs]
    refine takeF (i := 5) (v := .int .i64 k) (k := 22) rfl rfl (by kernel_rfl) (by kernel_rfl) (by kernel_rfl) (fun _ _ _ h => h) (Or.inl ⟨by rfl, fun z hz => by go_simp⟩) hHeld ?_
    try simp only [Act.put, sia, sc0, scs]
    refine takeF (i := 6) (v := .pointer (some ⟨b, k * 20, none⟩)) (k := 23) rfl rfl (by kernel_rfl) (by kernel_rfl) (by kernel_rfl) (fun _ _ _ h => h) (Or.inl ⟨by rfl, fun z hz => by go_simp⟩) hHeld ?_
    try simp only [Act.put, sia, sc0, scs]
    refine takeF (i := 7) (v := .pointer (some ⟨b, k * 20 + 2, none⟩)) (k := 24) rfl rfl (by kernel_rfl) (by kernel_rfl) (by kernel_rfl) (fun _ _ _ h => h) (Or.inl ⟨by rfl, fun z hz => by go_simp⟩) hHeld ?_
    try simp only [Act.put, sia, sc0, scs]
    refine takeF (i := 10) (v := .int .i64 0) (k := 27) rfl rfl (by kernel_rfl) (by kernel_rfl) (by kernel_rfl) (fun _ _ _ h => h) (Or.inl ⟨by rfl, fun z hz => by go_simp⟩) hHeld ?_
    try simp only [Act.put, sia, sc0, scs]
    refine wpAnyH_ready (rs := [8]) (by kernel_rfl) (by simp) (AllReadyH.cons rfl (fun K hK => ?_) AllReadyH.nil)
    go_simp
    refine hK.out _ _ trivial (fun hHeld => ?_)
    clear hK K
    try simp only [Act.put, sia, sc0, scs]
    refine takeF (i := 9) (v := .int .i64 2) (k := 26) rfl rfl (by kernel_rfl) (by kernel_rfl) (by kernel_rfl) (fun _ _ _ h => h) (Or.inl ⟨by rfl, fun z hz => by go_simp⟩) hHeld ?_
    try simp only [Act.put, sia, sc0, scs]
    refine wpAnyH_done (by kernel_rfl) ?_ _
    obtain ⟨w3, hw3⟩ : ∃ X, X = (wr.alloc (.cells #[.pointer (some ⟨b, k * 20, none⟩), .pointer (some ⟨b, k * 20 + 2, none⟩)] 114)).drew := ⟨_, rfl⟩
    rw [← hw3]
    have hb3 : Below w.heap.size w w3 := by rw [hw3]; exact (HB1.out.alloc HB1.out.size _).drew
    have ho3 : OwnCs w3 w.heap.size (.slice (some ⟨b, 0, none⟩) l.length c1) (mvRow d l k) := by rw [hw3]; exact HO.out.below ((Below.refl _ _).alloc (Nat.le_refl _) _).drew
    have p0 : w3.cell? ⟨wr.heap.size, 0, none⟩ = some (.pointer (some ⟨b, k * 20, none⟩)) := by rw [hw3]; simp [go_sem]
    have p1 : w3.cell? ⟨wr.heap.size, 1, none⟩ = some (.pointer (some ⟨b, k * 20 + 2, none⟩)) := by rw [hw3]; simp [go_sem]
    have pb : w3.blk wr.heap.size = some (.cells #[.pointer (some ⟨b, k * 20, none⟩), .pointer (some ⟨b, k * 20 + 2, none⟩)] 114 (0, 0)) := by rw [hw3]; exact heap_alloc_new wr _
    have hxk := mvRow_at (d := d) hx
    have q0 := ho3.cell hxk (j := 0) rfl
    have q1 := (ho3.cell hxk (j := 1) rfl).1
    have q2 := ho3.cell hxk (j := 2) rfl
    have q3 := (ho3.cell hxk (j := 3) rfl).1
    obtain ⟨q0, f0⟩ := q0
    obtain ⟨q2, f2⟩ := q2
    rw [Nat.add_zero] at q0 f0
    have hne : wr.heap.size ≠ b := by
     obtain h := (ho3.lt b rfl)
     have := HO.out.lt b rfl
     omega
    have PB := Lib.hid pb; clear pb
    have HO3 := Lib.hid ho3; clear ho3
    have HB3 := Lib.hid hb3; clear hb3
    have HXK := Lib.hid hxk; clear hxk hw3
    have HX := Lib.hid hx; clear hx
    by_cases hs0 : 0 ≤ x.id.seat ∧ x.id.seat < 100
    · have e0 : wrap64 (x.id.seat + d) = x.id.seat + d := by unfold wrap64; omega
      have hsx : seat x.id.seat = true := by unfold seat; simp; omega
      have HSX := Lib.hid hsx; clear hsx
      have hlo : ¬ x.id.seat < 0 := by omega
      have hhi : ¬ (100 : Int) ≤ x.id.seat := by omega
      go_wp2_with fail
      refine wp_loop_rounds 3 ?_
      rw [rounds_succ]
      go_wp2_with fail
      obtain ⟨w4, hw4⟩ : ∃ X, X = w3.setCell ⟨b, k * 20, none⟩ (.int .i64 (x.id.seat + d)) := ⟨_, rfl⟩
      rw [← hw4]
      have ho4 : OwnCs w4 w.heap.size (.slice (some ⟨b, 0, none⟩) l.length c1) ((mvRow d l k).set k (mvId d x)) := by
       have h := OwnCs.setCell (j := 0) (x' := mvId d x) (v := .int .i64 (x.id.seat + d)) HO3.out HXK.out rfl (by omega)
       rw [Nat.add_zero, ← hw4] at h
       exact h
      have hb4 : Below w.heap.size w w4 := by rw [hw4]; exact HB3.out.setCell hbase _
      have pb4 : w4.blk wr.heap.size = some (.cells #[.pointer (some ⟨b, k * 20, none⟩), .pointer (some ⟨b, k * 20 + 2, none⟩)] 114 (0, 0)) := by
       rw [hw4]
       exact (blk_setCell hne).trans PB.out
      have p14 : w4.cell? ⟨wr.heap.size, 1, none⟩ = some (.pointer (some ⟨b, k * 20 + 2, none⟩)) := (cell_of_row _ _ _ _ _ _ pb4).trans rfl
      have hx4 : ((mvRow d l k).set k (mvId d x))[k]? = some (mvId d x) := by
       rw [List.getElem?_set_self (List.getElem?_eq_some_iff.1 HXK.out).1]
      have r2 : w4.cell? ⟨b, k * 20 + 2, none⟩ = some (.int .i64 x.after.seat) ∧ w4.frozen? ⟨b, k * 20 + 2, none⟩ = false := ho4.cell hx4 (j := 2) rfl
      have r3 : w4.cell? ⟨b, k * 20 + 3, none⟩ = some (.int .i64 x.after.count) := (ho4.cell hx4 (j := 3) rfl).1
      obtain ⟨r2, g2⟩ := r2
      have HO4 := Lib.hid ho4; clear ho4
      have HB4 := Lib.hid hb4; clear hb4
      clear hw4 p0 p1 q0 q1 q2 q3 f0 f2 pb4
      have HX4 := Lib.hid hx4; clear hx4
      have hsq : sEq x.after.seat x.after.count 0 0 = decide (x.after = noStamp) := sEq_iff (a := x.after) (b := noStamp)
      by_cases hr : x.after = noStamp
      · have hse : sEq x.after.seat x.after.count 0 0 = true := by rw [hsq]; simpa using hr
        have HRR := Lib.hid hr; clear hr hsq
        rw [rounds_succ]
        go_wp2_with fail
        rw [rounds_succ]
        go_wp2_with fail
        refine ⟨⟨k + 1, by omega, by go_num, ?_, ?_, HB4.out⟩, by simp [intOf]; omega⟩
        · rw [seats_succ HX.out, HS.out, HSX.out, HRR.out]
          simp
        · rw [← mvRow_succ HX.out]
          unfold mv
          rw [if_pos HRR.out]
          exact HO4.out
      · have hse : sEq x.after.seat x.after.count 0 0 = false := by rw [hsq]; simpa using hr
        have HRR := Lib.hid hr; clear hr hsq
        by_cases ha : 0 ≤ x.after.seat ∧ x.after.seat < 100
        · have e2 : wrap64 (x.after.seat + d) = x.after.seat + d := by unfold wrap64; omega
          have hlo2 : ¬ x.after.seat < 0 := by omega
          have hhi2 : ¬ (100 : Int) ≤ x.after.seat := by omega
          have hsa : seat x.after.seat = true := by unfold seat; simp; omega
          have HSA := Lib.hid hsa; clear hsa
          rw [rounds_succ]
          go_wp2_with fail
          obtain ⟨w5, hw5⟩ : ∃ X, X = w4.setCell ⟨b, k * 20 + 2, none⟩ (.int .i64 (x.after.seat + d)) := ⟨_, rfl⟩
          rw [← hw5]
          have ho5 : OwnCs w5 w.heap.size (.slice (some ⟨b, 0, none⟩) l.length c1) (((mvRow d l k).set k (mvId d x)).set k (mvAf d (mvId d x))) := by
           have h := OwnCs.setCell (j := 2) (x' := mvAf d (mvId d x)) (v := .int .i64 (x.after.seat + d)) HO4.out HX4.out rfl (by omega)
           rw [← hw5] at h
           exact h
          have hb5 : Below w.heap.size w w5 := by rw [hw5]; exact HB4.out.setCell hbase _
          have HO5 := Lib.hid ho5; clear ho5
          have HB5 := Lib.hid hb5; clear hb5 hw5
          clear r2 r3 g2 p14
          rw [rounds_succ]
          go_wp2_with fail
          refine ⟨⟨k + 1, by omega, by go_num, ?_, ?_, HB5.out⟩, by simp [intOf]; omega⟩
          · rw [seats_succ HX.out, HS.out, HSX.out, HSA.out]
            simp
          · rw [← mvRow_succ HX.out]
            unfold mv
            rw [if_neg HRR.out]
            have := HO5.out
            rw [List.set_set] at this
            exact this
        · have hbad : seatsB l = false := seats_bad (k := k + 1) (by
            rw [seats_succ HX.out]
            have h1 : seat x.after.seat = false := by
             unfold seat
             rw [Bool.and_eq_false_iff, decide_eq_false_iff_not, decide_eq_false_iff_not]
             omega
            have h2 : decide (x.after = noStamp) = false := by simpa using HRR.out
            rw [h1, h2]; simp)
          have HBAD := Lib.hid hbad; clear hbad
          rw [rounds_succ]
          go_wp2_with fail
          all_goals first
           | (exfalso; omega)
           | (go_ret2; exact ⟨Or.inr ⟨HBAD.out, rfl⟩, HB4.out⟩)
    · have hbad : seatsB l = false := seats_bad (k := k + 1) (by
        rw [seats_succ HX.out]
        have : seat x.id.seat = false := by
         unfold seat
         rw [Bool.and_eq_false_iff, decide_eq_false_iff_not, decide_eq_false_iff_not]
         omega
        rw [this]; simp)
      have HBAD := Lib.hid hbad; clear hbad
      go_wp2_with fail
      refine wp_loop_rounds 3 ?_
      rw [rounds_succ]
      go_wp2_with fail
      all_goals first
       | (exfalso; omega)
       | (go_ret2; exact ⟨Or.inr ⟨HBAD.out, rfl⟩, HB3.out⟩)
  · have hke : k = l.length := by omega
    have hi1 : ¬ (k : Int) < l.length := by omega
    go_wp2_with fail
    go_ret2
    subst hke
    refine ⟨Or.inl ⟨by simpa using HS.out, _, rfl, ?_⟩, HB1.out⟩
    have := HO.out
    unfold mvRow at this
    simpa using this
end Go.Proofs.YtecnlfaholmpoaaGreat
set_option maxRecDepth 20000
set_option maxHeartbeats 2000000
namespace Go.Proofs.YtecnlfaholmpoaaGreat
open Go.RowKit
def laterI (x y : Clause) : Int := if y.id.count - x.id.count = 0 then y.id.seat - x.id.seat else y.id.count - x.id.count
theorem or_lit {a b r : Int} (h : (if a = 0 then b else a) = r) (g : Nat) (w : World) (h0 : w.cell? ⟨g, 0, none⟩ = some (.int .i64 a)) (h1 : w.cell? ⟨g, 1, none⟩ = some (.int .i64 b)) :
 Calls Tryz.prog 41 #[.slice (some ⟨g, 0, none⟩) 2 2] w fun e w' => e = .returned (.int .i64 r) ∧ w' = w := by
 subst h
 exact or_any a b g w h0 h1
theorem later_iff (x y : Clause) : later x y = decide (laterI x y < 0) := by
 unfold later laterI
 rw [Bool.eq_iff_iff]
 simp only [Bool.or_eq_true, Bool.and_eq_true, decide_eq_true_eq]
 split <;> omega
theorem later_cmp (x y : Clause) (hx : properS x.id = true) (hy : properS y.id = true) (W : World) : Calls Tryz.prog 73 #[x.agg, y.agg] W fun e w' => e = .returned (.int .i64 (laterI x y)) ∧ ∃ q os', w' = Go.Sort.grow (W.drewN q) os' := by
 unfold properS at hx hy
 simp only [Bool.and_eq_true, decide_eq_true_eq] at hx hy
 have e1 : wrap64 (y.id.count - x.id.count) = y.id.count - x.id.count := by unfold wrap64; omega
 have e2 : wrap64 (y.id.seat - x.id.seat) = y.id.seat - x.id.seat := by unfold wrap64; omega
 obtain ⟨r, hr⟩ : ∃ r, laterI x y = r := ⟨_, rfl⟩
 rw [hr]
 have HR := Lib.hid hr; clear hr
 go_enter Tryz.func73, Tryz.ntmps73
 go_wp2_with fail
 refine (or_lit (a := y.id.count - x.id.count) (b := y.id.seat - x.id.seat) HR.out (W.heap.size + 1 + 1) _ (by simp [go_sem]) (by simp [go_sem])).mono ?_
 rintro e w' ⟨rfl, rfl⟩
 go_wp2_with fail
 go_ret
 exact ⟨rfl, 0, _, by rw [Go.Sort.alloc_eq_grow, Go.Sort.alloc_eq_grow, Go.Sort.alloc_eq_grow, Go.Sort.grow_grow, Go.Sort.grow_grow]; rfl⟩
end Go.Proofs.YtecnlfaholmpoaaGreat
set_option maxRecDepth 20000
set_option maxHeartbeats 4000000
namespace Go.Proofs.YtecnlfaholmpoaaGreat
open Go.RowKit
def soonerI (x y : Clause) : Int := if cmpI x.id.count y.id.count = 0 then cmpI x.id.seat y.id.seat else cmpI x.id.count y.id.count
theorem sooner_iff (x y : Clause) : sooner x y = decide (soonerI x y < 0) := by
 unfold sooner soonerI cmpI
 rw [Bool.eq_iff_iff]
 simp only [Bool.or_eq_true, Bool.and_eq_true, decide_eq_true_eq]
 split <;> (try split) <;> (try split) <;> (try split) <;> omega
theorem grow_drew3 (W : World) (a b c : Obj) : Go.Sort.grow (Go.Sort.grow (Go.Sort.grow W #[a]) #[b]).drew #[c] = Go.Sort.grow (W.drewN 1) (#[a] ++ #[b] ++ #[c]) := by
 rw [Go.Sort.grow_grow]
 show Go.Sort.grow (Go.Sort.grow W.drew (#[a] ++ #[b])) #[c] = _
 rw [Go.Sort.grow_grow]
 rfl
theorem sooner_cmp (x y : Clause) (W : World) : Calls Tryz.prog 40 #[x.agg, y.agg] W fun e w' => e = .returned (.int .i64 (soonerI x y)) ∧ ∃ q os', w' = Go.Sort.grow (W.drewN q) os' := by
 obtain ⟨r, hr⟩ : ∃ r, soonerI x y = r := ⟨_, rfl⟩
 rw [hr]
 have HR := Lib.hid hr; clear hr
 go_enter Tryz.func40, Tryz.ntmps40
 go_wp2_with fail
 obtain ⟨w1, hw1⟩ : ∃ X, X = (W.alloc (.cells (claCs x) 51)).alloc (.cells (claCs y) 51) := ⟨_, rfl⟩
 have k0 : w1.blk (W.heap.size) = some (.cells (claCs x) 51 (0, 0)) := by rw [hw1]; simp [go_sem]
 have k1 : w1.blk (W.heap.size + 1) = some (.cells (claCs y) 51 (0, 0)) := by rw [hw1]; simp [go_sem]
 rw [← hw1]
 have HW := Lib.hid hw1; clear hw1
 refine wp_region_held_drew (S := (fun z : World => z.blk (W.heap.size) = some (.cells (claCs x) 51 (0, 0)) ∧ z.blk (W.heap.size + 1) = some (.cells (claCs y) 51 (0, 0)))) (by kernel_rfl) ⟨k0, k1⟩ (fun hHeld => ?_)
 refine takeF (i := 0) (v := .pointer (some ⟨W.heap.size, 0, none⟩)) (k := 5) rfl rfl (by kernel_rfl) (by kernel_rfl) (by kernel_rfl) (fun _ _ _ h => h) (Or.inl ⟨by rfl, fun z hz => by (obtain ⟨z0, z1⟩ := hz; go_simp)⟩) hHeld ?_
 try simp only [Act.put, sia, sc0, scs]
 refine takeF (i := 1) (v := .pointer (some ⟨W.heap.size, 1, none⟩)) (k := 6) rfl rfl (by kernel_rfl) (by kernel_rfl) (by kernel_rfl) (fun _ _ _ h => h) (Or.inl ⟨by rfl, fun z hz => by (obtain ⟨z0, z1⟩ := hz; go_simp)⟩) hHeld ?_
 try simp only [Act.put, sia, sc0, scs]
 refine takeF (i := 2) (v := .int .i64 x.id.count) (k := 7) rfl rfl (by kernel_rfl) (by kernel_rfl) (by kernel_rfl) (fun _ _ _ h => h) (Or.inl ⟨by rfl, fun z hz => by (obtain ⟨z0, z1⟩ := hz; have q : z.cell? ⟨W.heap.size, 1, none⟩ = some (.int .i64 x.id.count) := (cell_of_row _ _ _ _ _ _ z0).trans rfl; clear z0 z1; go_simp)⟩) hHeld ?_
 try simp only [Act.put, sia, sc0, scs]
 refine takeF (i := 3) (v := .pointer (some ⟨W.heap.size + 1, 0, none⟩)) (k := 8) rfl rfl (by kernel_rfl) (by kernel_rfl) (by kernel_rfl) (fun _ _ _ h => h) (Or.inl ⟨by rfl, fun z hz => by (obtain ⟨z0, z1⟩ := hz; go_simp)⟩) hHeld ?_
 try simp only [Act.put, sia, sc0, scs]
 refine takeF (i := 4) (v := .pointer (some ⟨W.heap.size + 1, 1, none⟩)) (k := 9) rfl rfl (by kernel_rfl) (by kernel_rfl) (by kernel_rfl) (fun _ _ _ h => h) (Or.inl ⟨by rfl, fun z hz => by (obtain ⟨z0, z1⟩ := hz; go_simp)⟩) hHeld ?_
 try simp only [Act.put, sia, sc0, scs]
 refine takeF (i := 5) (v := .int .i64 y.id.count) (k := 10) rfl rfl (by kernel_rfl) (by kernel_rfl) (by kernel_rfl) (fun _ _ _ h => h) (Or.inl ⟨by rfl, fun z hz => by (obtain ⟨z0, z1⟩ := hz; have q : z.cell? ⟨W.heap.size + 1, 1, none⟩ = some (.int .i64 y.id.count) := (cell_of_row _ _ _ _ _ _ z1).trans rfl; clear z0 z1; go_simp)⟩) hHeld ?_
 try simp only [Act.put, sia, sc0, scs]
 refine takeF (i := 7) (v := .pointer (some ⟨W.heap.size, 0, none⟩)) (k := 12) rfl rfl (by kernel_rfl) (by kernel_rfl) (by kernel_rfl) (fun _ _ _ h => h) (Or.inl ⟨by rfl, fun z hz => by (obtain ⟨z0, z1⟩ := hz; go_simp)⟩) hHeld ?_
 try simp only [Act.put, sia, sc0, scs]
 refine takeF (i := 8) (v := .pointer (some ⟨W.heap.size, 0, none⟩)) (k := 13) rfl rfl (by kernel_rfl) (by kernel_rfl) (by kernel_rfl) (fun _ _ _ h => h) (Or.inl ⟨by rfl, fun z hz => by (obtain ⟨z0, z1⟩ := hz; go_simp)⟩) hHeld ?_
 try simp only [Act.put, sia, sc0, scs]
 refine takeF (i := 9) (v := .int .i64 x.id.seat) (k := 14) rfl rfl (by kernel_rfl) (by kernel_rfl) (by kernel_rfl) (fun _ _ _ h => h) (Or.inl ⟨by rfl, fun z hz => by (obtain ⟨z0, z1⟩ := hz; have q : z.cell? ⟨W.heap.size, 0, none⟩ = some (.int .i64 x.id.seat) := (cell_of_row _ _ _ _ _ _ z0).trans rfl; clear z0 z1; go_simp)⟩) hHeld ?_
 try simp only [Act.put, sia, sc0, scs]
 refine takeF (i := 10) (v := .pointer (some ⟨W.heap.size + 1, 0, none⟩)) (k := 15) rfl rfl (by kernel_rfl) (by kernel_rfl) (by kernel_rfl) (fun _ _ _ h => h) (Or.inl ⟨by rfl, fun z hz => by (obtain ⟨z0, z1⟩ := hz; go_simp)⟩) hHeld ?_
 try simp only [Act.put, sia, sc0, scs]
 refine takeF (i := 11) (v := .pointer (some ⟨W.heap.size + 1, 0, none⟩)) (k := 16) rfl rfl (by kernel_rfl) (by kernel_rfl) (by kernel_rfl) (fun _ _ _ h => h) (Or.inl ⟨by rfl, fun z hz => by (obtain ⟨z0, z1⟩ := hz; go_simp)⟩) hHeld ?_
 try simp only [Act.put, sia, sc0, scs]
 refine takeF (i := 12) (v := .int .i64 y.id.seat) (k := 17) rfl rfl (by kernel_rfl) (by kernel_rfl) (by kernel_rfl) (fun _ _ _ h => h) (Or.inl ⟨by rfl, fun z hz => by (obtain ⟨z0, z1⟩ := hz; have q : z.cell? ⟨W.heap.size + 1, 0, none⟩ = some (.int .i64 y.id.seat) := (cell_of_row _ _ _ _ _ _ z1).trans rfl; clear z0 z1; go_simp)⟩) hHeld ?_
 try simp only [Act.put, sia, sc0, scs]
 refine wpAnyH_ready (rs := [6]) (by kernel_rfl) (by simp) (AllReadyH.cons rfl (fun K hK => ?_) (AllReadyH.nil))
 go_simp
 refine (compare_any x.id.count y.id.count _).mono ?_
 rintro e W' ⟨rfl, rfl⟩
 go_wp2_with fail
 refine hK.out _ _ ⟨k0, k1⟩ (fun hHeld => ?_)
 clear hK K
 try simp only [Act.put, sia, sc0, scs]
 refine wpAnyH_ready (rs := [13]) (by kernel_rfl) (by simp) (AllReadyH.cons rfl (fun K hK => ?_) (AllReadyH.nil))
 go_simp
 refine (compare_any x.id.seat y.id.seat _).mono ?_
 rintro e W' ⟨rfl, rfl⟩
 go_wp2_with fail
 refine hK.out _ _ ⟨k0, k1⟩ (fun hHeld => ?_)
 clear hK K
 try simp only [Act.put, sia, sc0, scs]
 refine wpAnyH_ready (rs := [14]) (by kernel_rfl) (by simp) (AllReadyH.cons rfl (fun K hK => ?_) (AllReadyH.nil))
 go_simp
 have hA : Below w1.heap.size w1 (w1.drew.alloc (.cells #[.int .i64 (cmpI x.id.count y.id.count), .int .i64 (cmpI x.id.seat y.id.seat)] 3)) := (Below.refl _ _).drew.alloc (Nat.le_refl _) _
 refine hK.out _ _ ⟨rkeepk hA k0, rkeepk hA k1⟩ (fun hHeld => ?_)
 clear hK K
 try simp only [Act.put, sia, sc0, scs]
 refine wpAnyH_ready (rs := [15]) (by kernel_rfl) (by simp) (AllReadyH.cons rfl (fun K hK => ?_) (AllReadyH.nil))
 go_simp
 refine (or_lit HR.out w1.heap.size _ (by simp [go_sem]) (by simp [go_sem])).mono ?_
 rintro e W' ⟨rfl, rfl⟩
 go_wp2_with fail
 refine hK.out _ _ ⟨rkeepk hA k0, rkeepk hA k1⟩ (fun hHeld => ?_)
 clear hK K
 try simp only [Act.put, sia, sc0, scs]
 refine takeF (i := 16) (v := .int .i64 r) (k := 4) rfl rfl (by kernel_rfl) (by kernel_rfl) (by kernel_rfl) (fun _ _ _ h => h) (Or.inl ⟨by rfl, fun z hz => by (obtain ⟨z0, z1⟩ := hz; go_simp)⟩) hHeld ?_
 try simp only [Act.put, sia, sc0, scs]
 refine wpAnyH_done (by kernel_rfl) ?_ _
 go_wp2_with fail
 go_ret
 exact ⟨rfl, 1, _, by rw [HW.out, Go.Sort.alloc_eq_grow, Go.Sort.alloc_eq_grow, Go.Sort.alloc_eq_grow]; exact grow_drew3 _ _ _ _⟩
end Go.Proofs.YtecnlfaholmpoaaGreat
namespace Go.Proofs.YtecnlfaholmpoaaGreat
open Go.Sort
section
variable {α : Type} [Inhabited α]

def Rot (a m b : Nat) (d d' : Array α) : Prop :=
 PermIn a b d d' ∧ (∀ x, x < b - m → d'[a + x]! = d[m + x]!) ∧ (∀ x, x < m - a → d'[a + (b - m) + x]! = d[a + x]!)

theorem Rot.size {a m b : Nat} {d d' : Array α} (h : Rot a m b d d') : d'.size = d.size := h.1.1
theorem Rot.out {a m b : Nat} {d d' : Array α} (h : Rot a m b d d') {i : Nat} (hi : i < a ∨ b ≤ i) : d'[i]! = d[i]! := h.1.2.1 i hi
theorem Rot.left {a m b : Nat} {d d' : Array α} (h : Rot a m b d d') {i : Nat} (h1 : a ≤ i) (h2 : i < a + (b - m)) : d'[i]! = d[i + m - a]! := by
 obtain ⟨x, rfl⟩ : ∃ x, i = a + x := ⟨i - a, by omega⟩
 rw [h.2.1 x (by omega), show a + x + m - a = m + x by omega]
theorem Rot.right {a m b : Nat} {d d' : Array α} (h : Rot a m b d d') {i : Nat} (h0 : a ≤ m) (h1 : a + (b - m) ≤ i) (h2 : i < a + (b - m) + (m - a)) : d'[i]! = d[i - (b - m)]! := by
 obtain ⟨x, rfl⟩ : ∃ x, i = a + (b - m) + x := ⟨i - (a + (b - m)), by omega⟩
 rw [h.2.2 x (by omega), show a + (b - m) + x - (b - m) = a + x by omega]
theorem Rot.id {a m b : Nat} (h : a = m ∨ m = b) (d : Array α) : Rot a m b d d := by
 refine ⟨permIn_refl d a b, fun x hx => ?_, fun x hx => ?_⟩
 · rcases h with rfl | rfl
   · rfl
   · omega
 · rcases h with rfl | rfl
   · omega
   · rw [Nat.sub_self, Nat.add_zero]

structure SwR (a b n : Nat) (lo hi : Nat) (d d' : Array α) : Prop where
 perm : PermIn lo hi d d'
 fst : ∀ x, x < n → d'[a + x]! = d[b + x]!
 snd : ∀ x, x < n → d'[b + x]! = d[a + x]!
 out : ∀ i, (i < a ∨ a + n ≤ i) → (i < b ∨ b + n ≤ i) → d'[i]! = d[i]!
theorem SwR.nil (a b lo hi : Nat) (d : Array α) : SwR a b 0 lo hi d d := ⟨permIn_refl d lo hi, fun _ h => by omega, fun _ h => by omega, fun _ _ _ => rfl⟩
theorem SwR.step {a b n lo hi : Nat} {d d' : Array α} (h : SwR a b n lo hi d d') (hab : a + n < b) (hlo : lo ≤ a) (hhi : b + n < hi) (hs : hi ≤ d.size) : SwR a b (n + 1) lo hi d (swp d' (a + n) (b + n)) := by
 have hsz := h.perm.1
 have g := swp_get d' (show a + n < d'.size by omega) (show b + n < d'.size by omega)
 refine ⟨permIn_trans _ _ _ _ _ h.perm (swp_permIn d' lo hi (a + n) (b + n) (by omega) (by omega) (by omega) hhi (by omega)), fun x hx => ?_, fun x hx => ?_, fun i h1 h2 => ?_⟩
 · rw [g]
   by_cases hn : x = n
   · subst hn
     rw [if_neg (by omega), if_pos rfl]
     exact h.out _ (Or.inr (by omega)) (Or.inr (by omega))
   · rw [if_neg (by omega), if_neg (by omega)]
     exact h.fst x (by omega)
 · rw [g]
   by_cases hn : x = n
   · subst hn
     rw [if_pos rfl]
     exact h.out _ (Or.inr (by omega)) (Or.inl (by omega))
   · rw [if_neg (by omega)]
     by_cases h3 : b + x = a + n
     · omega
     · rw [if_neg h3]; exact h.snd x (by omega)
 · rw [g, if_neg (by omega), if_neg (by omega)]
   exact h.out i (by omega) (by omega)

def tgt (a m b : Nat) (d : Array α) (x : Nat) : α := if x < a + (b - m) then d[x + m - a]! else d[x - (b - m)]!

structure RotI (a m b i j : Nat) (d dk : Array α) : Prop where
 perm : PermIn a b d dk
 hi : 1 ≤ i ∧ i ≤ m - a
 hj : 1 ≤ j ∧ j ≤ b - m
 pre : ∀ x, a ≤ x → x < m - i → dk[x]! = tgt a m b d x
 suf : ∀ x, m + j ≤ x → x < b → dk[x]! = tgt a m b d x
 fst : ∀ x, x < j → dk[m + x]! = tgt a m b d (m - i + x)
 snd : ∀ x, x < i → dk[m - i + x]! = tgt a m b d (m - i + j + x)
theorem RotI.start {a m b : Nat} (h1 : a < m) (h2 : m < b) (d : Array α) : RotI a m b (m - a) (b - m) d d := by
 refine ⟨permIn_refl d a b, by omega, by omega, fun x _ _ => by omega, fun x _ _ => by omega, fun x hx => ?_, fun x hx => ?_⟩
 · unfold tgt; rw [if_pos (by omega)]; congr 1; omega
 · unfold tgt; rw [if_neg (by omega)]; congr 1; omega
variable {lt : α → α → Bool}
end
open Go.Sort
section
variable {α : Type} [Inhabited α] {lt lt' : α → α → Bool} {R : α → α → Prop}

theorem insInner_perm (a : Nat) : ∀ (j i : Nat) (d : Array α), a ≤ j → j ≤ i → i < d.size → PermIn a (i + 1) d (insInner lt a j d)
 | 0, i, d, _, _, _ => by unfold insInner; exact permIn_refl d a (i + 1)
 | j + 1, i, d, haj, hji, hi => by
   unfold insInner
   split
   · rename_i hc
     simp only [Bool.and_eq_true, decide_eq_true_eq] at hc
     have ih := insInner_perm a j i (swp d (j + 1) j) (by omega) (by omega) (by rw [swp_size]; exact hi)
     exact permIn_trans _ _ _ _ _ (swp_permIn d a (i + 1) (j + 1) j haj (by omega) (by omega) (by omega) (by omega)) ih
   · exact permIn_refl d a (i + 1)

theorem insInner_cong (hR : ∀ x y, R x y → lt y x = lt' y x) (a : Nat) : ∀ (j : Nat) (d : Array α), j < d.size → (∀ p, a ≤ p → p < j → R d[p]! d[j]!) → insInner lt a j d = insInner lt' a j d
 | 0, d, _, _ => by unfold insInner; rfl
 | j + 1, d, hj, h => by
   unfold insInner
   by_cases ha : j + 1 > a
   · rw [hR _ _ (h j (by omega) (by omega))]
     have g := swp_get d hj (show j < d.size by omega)
     have ih := insInner_cong hR a j (swp d (j + 1) j) (by rw [swp_size]; omega) (fun p h1 h2 => by
      rw [g p, g j, if_neg (by omega), if_neg (by omega), if_pos rfl]; exact h p h1 (by omega))
     rw [ih]
   · simp [ha]

theorem insO_go {a b i : Nat} {d : Array α} (h : i < b) : insOuter lt a b i d = insOuter lt a b (i + 1) (insInner lt a i d) := by rw [insOuter, if_pos h]
theorem insO_stop {a b i : Nat} {d : Array α} (h : ¬ i < b) : insOuter lt a b i d = d := by rw [insOuter, if_neg h]
theorem insOuter_cong (hR : ∀ x y, R x y → lt y x = lt' y x) (a b : Nat) : ∀ (n i : Nat) (d : Array α), b - i = n → a < i → b ≤ d.size →
 (∀ p q, a ≤ p → p < i → i ≤ q → q < b → R d[p]! d[q]!) → (∀ p q, i ≤ p → p < q → q < b → R d[p]! d[q]!) → insOuter lt a b i d = insOuter lt' a b i d
 | 0, i, d, hn, _, _, _, _ => by rw [insO_stop (lt := lt) (by omega), insO_stop (lt := lt') (by omega)]
 | n + 1, i, d, hn, hai, hb, h1, h2 => by
   rw [insO_go (lt := lt) (by omega), insO_go (lt := lt') (by omega), insInner_cong hR a i d (by omega) (fun p hp hpi => h1 p i hp hpi (Nat.le_refl _) (by omega))]
   have hp : PermIn a (i + 1) d (insInner lt' a i d) := insInner_perm a i i d (by omega) (Nat.le_refl _) (by omega)
   refine insOuter_cong hR a b n (i + 1) _ (by omega) (by omega) (by rw [hp.1]; exact hb) (fun p q h3 h4 h5 h6 => ?_) (fun p q h3 h4 h5 => ?_)
   · rw [hp.2.1 q (Or.inr h5)]
     refine permIn_all d _ a (i + 1) (fun x => R x d[q]!) (by omega) hp (fun x h7 h8 => ?_) p h3 h4
     rcases Nat.lt_or_ge x i with h | h
     · exact h1 x q h7 h (by omega) h6
     · exact h2 x q h (by omega) h6
   · rw [hp.2.1 p (Or.inr h3), hp.2.1 q (Or.inr (by omega))]
     exact h2 p q (by omega) h4 h5

theorem insertionSort_stable (hS : SWO lt') (hR : ∀ x y, R x y → lt y x = lt' y x) (d : Array α) (a b : Nat) (hab : a ≤ b) (hb : b ≤ d.size) (h : ∀ p q, a ≤ p → p < q → q < b → R d[p]! d[q]!) :
 PermIn a b d (insertionSort lt d a b) ∧ SortedIn lt' a b (insertionSort lt d a b) := by
 have e : insertionSort lt d a b = insertionSort lt' d a b := by
  unfold insertionSort
  exact insOuter_cong hR a b _ (a + 1) d rfl (by omega) hb (fun p q h1 h2 h3 h4 => h p q h1 (by omega) h4) (fun p q h1 h2 h3 => h p q (by omega) h2 h3)
 rw [e]
 exact insertionSort_holds hS d a b hab hb
end
end Go.Proofs.YtecnlfaholmpoaaGreat
namespace Go.Proofs.YtecnlfaholmpoaaGreat
open Go.RowKit
section
variable {α : Type} [Inhabited α]
theorem cflatK_get (f : α → Clause) (d : Array α) (t : Nat) (h : t < d.size * 20) : (cflat (d.toList.map f))[t]? = some (Go.Sort.flatK (fun a => (f a).cells) 20 d)[t]! := by
 rw [Go.Sort.get_flatK _ _ _ _ h]
 have hk : t / 20 < d.size := by omega
 have hj : t % 20 < 20 := Nat.mod_lt _ (by omega)
 have hd : d[t / 20]! = d[t / 20] := getElem!_pos d _ hk
 have h1 : (d.toList.map f)[t / 20]? = some (f d[t / 20]!) := by
  rw [List.getElem?_map, Array.getElem?_toList, Array.getElem?_eq_getElem hk, hd]
  rfl
 have h2 : ∀ c : Clause, c.cells[t % 20]? = some (c.cells[t % 20]!) := fun c => by
  have hl : t % 20 < c.cells.length := hj
  rw [getElem!_pos c.cells (t % 20) hl, List.getElem?_eq_getElem hl]
 have := cfl_get (d.toList.map f) (t / 20) _ (t % 20) _ h1 (h2 _)
 rw [show t / 20 * 20 + t % 20 = t by omega] at this
 exact this
theorem holds_row (f : α → Clause) {w : World} {b : Nat} {cur : Array Value} {d : Array α} (hb : w.heap[b]? = some (.cells cur 51 (0, 0))) (ht : cur.toList.take (d.size * 20) = cflat (d.toList.map f)) : Go.Sort.HoldsK (fun a => (f a).cells) 20 w b 0 d := by
 intro t h
 rw [Go.Sort.size_flatK] at h
 refine ⟨?_, blk_frozen hb⟩
 rw [Nat.zero_add, cell_of_row _ _ _ _ _ _ hb]
 have h1 := cflatK_get f d t h
 rw [← ht, List.getElem?_take, if_pos h, Array.getElem?_toList] at h1
 exact h1
theorem row_after (f : α → Clause) {w : World} {b : Nat} {cur : Array Value} {d' : Array α} (hb : w.heap[b]? = some (.cells cur 51 (0, 0))) (hs : d'.size * 20 ≤ cur.size) (n : Nat) (os : Array Obj) :
 ∃ cur', (sortWorldK (fun a => (f a).cells) 20 w b 0 n d' os).heap[b]? = some (.cells cur' 51 (0, 0)) ∧ cur'.size = cur.size ∧ cur'.toList.take (d'.size * 20) = cflat (d'.toList.map f) ∧ w.grownBy (sortWorldK (fun a => (f a).cells) 20 w b 0 n d' os) (some b) := by
 have hlt : b < w.heap.size := (Array.getElem?_eq_some_iff.1 hb).1
 have hsz : (Go.Sort.putRowK (fun a => (f a).cells) 20 (Go.Sort.ahead w n) b 0 d').heap.size = w.heap.size := by
  unfold Go.Sort.putRowK
  rw [Go.Sort.size_putRow]
  rfl
 have hat : ∀ i, i < w.heap.size → (sortWorldK (fun a => (f a).cells) 20 w b 0 n d' os).heap[i]? = (Go.Sort.putRowK (fun a => (f a).cells) 20 (Go.Sort.ahead w n) b 0 d').heap[i]? := fun i hi => by
  show ((Go.Sort.putRowK (fun a => (f a).cells) 20 (Go.Sort.ahead w n) b 0 d').heap ++ os)[i]? = _
  rw [Array.getElem?_append_left (by rw [hsz]; exact hi)]
 have hmod : ∀ i, (Go.Sort.putRowK (fun a => (f a).cells) 20 (Go.Sort.ahead w n) b 0 d').heap[i]? = if b = i then (w.heap[i]?).map (Go.Sort.onCells (Go.Sort.putCells id 0 (Go.Sort.flatK (fun a => (f a).cells) 20 d'))) else w.heap[i]? := fun i => by
  show (w.heap.modify b _)[i]? = _
  rw [Array.getElem?_modify]
 refine ⟨Go.Sort.putCells id 0 (Go.Sort.flatK (fun a => (f a).cells) 20 d') cur, ?_, by simp [Go.Sort.putCells], ?_, ?_⟩
 · rw [hat b hlt, hmod b, if_pos rfl, hb]
   rfl
 · apply List.ext_getElem?
   intro t
   rw [List.getElem?_take]
   split
   · rename_i ht
     rw [cflatK_get f d' t ht, Array.getElem?_toList]
     simp only [Go.Sort.putCells, Array.getElem?_mapIdx, Go.Sort.size_flatK]
     rw [Array.getElem?_eq_getElem (by omega)]
     simp [ht]
   · rename_i ht
     rw [List.getElem?_eq_none]
     rw [cflat_len, List.length_map, Array.length_toList]
     omega
 · refine ⟨rfl, rfl, rfl, ?_, fun i hi hne => ?_⟩
   · show w.heap.size ≤ ((Go.Sort.putRowK (fun a => (f a).cells) 20 (Go.Sort.ahead w n) b 0 d').heap ++ os).size
     rw [Array.size_append, hsz]
     omega
   · rw [hat i hi, hmod i, if_neg (fun e => hne (by rw [e]))]
end
end Go.Proofs.YtecnlfaholmpoaaGreat
