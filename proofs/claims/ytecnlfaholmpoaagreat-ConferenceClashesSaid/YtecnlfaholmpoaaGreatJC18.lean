/- commute.Commute answers commF, given what formed answers. -/
import Derived.Test.YtecnlfaholmpoaaGreatJC16
import Derived.Test.YtecnlfaholmpoaaGreatJC17
set_option linter.unusedVariables false
set_option linter.unusedSimpArgs false
set_option maxRecDepth 20000
set_option maxHeartbeats 4000000
namespace Go.Proofs.YtecnlfaholmpoaaGreat
open Go.RowKit Go.Maps Go.WideMaps
theorem step_cellO {wp wn : World} {b o : Nat} {v : Value} (hb : Below wp.heap.size wp wn) (h : wp.cell? ⟨b, o, none⟩ = some v) : wn.cell? ⟨b, o, none⟩ = some v := (hb.cell (p := ⟨b, o, none⟩) (World.block_lt_of_cell? _ _ h)).trans h
theorem takeD {P : Program} {ops : Array Oper} {Q : Exit → Act → World → Prop} {md : Region.Mode} {S : World → Prop} {i : Nat} {oi : Oper} {v : Value} {k : Nat} {fuel : Nat} {listed : Array Bool} {a : Act} {w : World} (hi : ops[i]? = some oi) (hd : oi.dst = some k)
 (hs : Region.noSelect ops = true) (hf : Region.free md ops listed i = true) (hr : (Region.ready md ops listed).contains i = true)
 (hQ : ∀ c a w, Q (.panic c) (a.put oi.dst v) w → Q (.panic c) a w) (hy : YieldsIf P ops S oi v a) (hS : S w)
 (h : wpAnyH P md ops Q S fuel (listed.setIfInBounds i true) (a.put (some k) v) w) : wpAnyH P md ops Q S (fuel + 1) listed a w :=
 wpAnyH_take hi hs hf hr hQ hy hS (by rw [hd]; exact h)
def FormC (p : Patch) (w : World) : Prop :=
 ∀ W, Below w.heap.size w W → Calls Tryz.prog 75 #[p.agg] W fun e w' => e = .returned (.bool (formedF p)) ∧ Below W.heap.size W w'
theorem namesC_any (p : Patch) (id : Str) (w : World) :
 Calls Tryz.prog 78 #[p.agg, vs id] w fun e w' => e = .returned (.bool (namesF p id)) ∧ Below w.heap.size w w' := by
 go_enter Tryz.func78, Tryz.ntmps78
 go_wp2_with fail
 have hb1 := (Below.refl w.heap.size w).alloc (Nat.le_refl _) (.cells #[.int .i64 p.kind, vs p.id, vs p.par, vs p.aft, vs p.num, .int .i64 p.item.kind, vs p.item.id, vs p.item.par, vs p.item.num, vs p.item.no, vs p.item.so, .bool p.item.gone, .int .i64 p.lang, vs p.fr, vs p.to] 49)
 have hrd := RdS.lit (w.alloc (.cells #[.int .i64 p.kind, vs p.id, vs p.par, vs p.aft, vs p.num, .int .i64 p.item.kind, vs p.item.id, vs p.item.par, vs p.item.num, vs p.item.no, vs p.item.so, .bool p.item.gone, .int .i64 p.lang, vs p.fr, vs p.to] 49)) [p.par, p.aft] #[vs p.par, vs p.aft] rfl
 have hb2 := hb1.alloc hb1.size (.cells #[vs p.par, vs p.aft] 9)
 have HB2 := Lib.hid hb2
 clear hb1 hb2
 simp at hrd
 refine (containsS_any [p.par, p.aft] _ 2 id _ hrd (by unfold maxLen; simp)).mono ?_
 rintro e w2 ⟨rfl, rfl⟩
 go_wp2_with fail
 go_ret
 refine ⟨ret_bool ?_, HB2.out⟩
 unfold hasS namesF
 simp [bool_ne (a := id)]
def sort1 (a b : Patch) : Patch := if b.kind < a.kind then b else a
def sort2 (a b : Patch) : Patch := if b.kind < a.kind then a else b
theorem commF_sort (a b : Patch) : commF a b = commO (sort1 a b) (sort2 a b) := by
 unfold commF sort1 sort2
 split <;> rfl
def patObj (p : Patch) : Obj := .cells #[.int .i64 p.kind, vs p.id, vs p.par, vs p.aft, vs p.num, .int .i64 p.item.kind, vs p.item.id, vs p.item.par, vs p.item.num, vs p.item.no, vs p.item.so, .bool p.item.gone, .int .i64 p.lang, vs p.fr, vs p.to] 49 (0, 0)
theorem formed_kinds {p : Patch} (h : formedF p = true) : 1 ≤ p.kind ∧ p.kind ≤ 7 := formed_kind h
theorem comm_mid (a b : Patch) (w : World) (fa : FormC a w) (fb : FormC b w) :
 Calls Tryz.prog 35 #[a.agg, b.agg] w fun e w' => e = .returned (.bool (commF a b)) ∧ Below w.heap.size w w' := by
 have fx : FormC (sort1 a b) w := by unfold sort1; split <;> assumption
 have fy : FormC (sort2 a b) w := by unfold sort2; split <;> assumption
 have FX := Lib.hid fx; clear fx
 have FY := Lib.hid fy; clear fy
 clear fa fb
 rw [commF_sort]
 generalize hX : sort1 a b = X at FX ⊢
 generalize hY : sort2 a b = Y at FY ⊢
 have HX := Lib.hid hX; clear hX
 have HY := Lib.hid hY; clear hY
 go_enter Tryz.func35, Tryz.ntmps35
 go_upto_if 10 with fail
 go_cut [] from 6 (fun wx => wx = (w.alloc (patObj X)).alloc (patObj Y))
 case first =>
  by_cases hk : b.kind < a.kind
  · have HK := Lib.hid hk
    have hd0 : decide (b.kind < a.kind) = true := by simpa using hk
    go_wp2_with fail
    go_meet
    case rel =>
     rw [← HX.out, ← HY.out]
     unfold sort1 sort2 patObj
     rw [if_pos HK.out, if_pos HK.out]
  · have HK := Lib.hid hk
    have hd0 : decide (b.kind < a.kind) = false := by simpa using hk
    go_wp2_with fail
    go_meet
    case rel =>
     rw [← HX.out, ← HY.out]
     unfold sort1 sort2 patObj
     have hk2 : ¬ b.kind < a.kind := by have := HK.out; omega
     rw [if_neg hk2, if_neg hk2]
 case' rest =>
  subst hcut
  unfold patObj
  go_upto_region 3 with fail
  go_cut [5] from 13 (fun v5 wx => v5 = .bool (thereF X Y) ∧ wx = (w.alloc (patObj X)).alloc (patObj Y))
 case first =>
  cases hp : (X.par == Y.par) with
  | true =>
    go_wp2_with fail
    go_meet
    case rel => exact ⟨by unfold thereF; simp [hp], rfl⟩
  | false =>
    go_wp2_with fail
    go_meet
    case rel => exact ⟨by unfold thereF; simp [hp], rfl⟩
 case rest =>
  obtain ⟨rfl, rfl⟩ := hcut
  have hb0 : Below w.heap.size w ((w.alloc (patObj X)).alloc (patObj Y)) := ((Below.refl _ _).alloc (Nat.le_refl _) _).alloc (by simp) _
  have HB0 := Lib.hid hb0; clear hb0
  unfold patObj at HB0 ⊢
  go_wp2_with fail
  refine (FX.out _ HB0.out).mono ?_
  rintro e w1 ⟨rfl, hb1⟩
  obtain ⟨hc, hf⟩ := bcell hb1
  have hk := bblk hb1
  have HB1 := Lib.hid hb1; clear hb1
  cases hfx : formedF X with
  | false =>
    go_wp2_with fail
    go_ret
    exact ⟨ret_bool (by unfold commO; simp [hfx]), HB0.out.trans (HB1.out.mono HB0.out.size)⟩
  | true =>
    go_wp2_with fail
    refine (FY.out _ (HB0.out.trans (HB1.out.mono HB0.out.size))).mono ?_
    rintro e w2 ⟨rfl, hb2⟩
    have hb3 := HB1.out.trans (hb2.mono HB1.out.size)
    clear hc hf hk hb2 HB1
    obtain ⟨hc, hf⟩ := bcell hb3
    have hk := bblk hb3
    have HB2 := Lib.hid hb3; clear hb3
    cases hfy : formedF Y with
    | false =>
      go_wp2_with fail
      go_ret
      exact ⟨ret_bool (by unfold commO; simp [hfx, hfy]), HB0.out.trans (HB2.out.mono HB0.out.size)⟩
    | true =>
      have HFX := Lib.hid hfx; clear hfx
      have HFY := Lib.hid hfy; clear hfy
      cases hpe : patEq X Y with
      | true =>
        have HXY := Lib.hid hpe
        obtain rfl := patEq_iff.1 hpe
        clear hpe
        go_wp2_with fail
        go_ret
        exact ⟨ret_bool (by unfold commO; simp [HFX.out, HXY.out]), HB0.out.trans (HB2.out.mono HB0.out.size)⟩
      | false =>
        have HXY := Lib.hid hpe
        unfold patEq at hpe
        go_upto_region 8 with fail
        clear hpe
        cases hid : (X.id == Y.id) with
        | true =>
          go_upto_region 9 with fail
          have hkx := formed_kinds HFX.out
          have hky := formed_kinds HFY.out
          have HKX := Lib.hid hkx; clear hkx
          have HKY := Lib.hid hky; clear hky
          have k0 : w2.cell? ⟨w.heap.size, 0, none⟩ = some (.int .i64 X.kind) := (hc _ _ (by simp; omega)).trans (by simp [go_sem])
          have k1 : w2.cell? ⟨w.heap.size + 1, 0, none⟩ = some (.int .i64 Y.kind) := (hc _ _ (by simp)).trans (by simp [go_sem])
          have k2 : w2.cell? ⟨w.heap.size, 12, none⟩ = some (.int .i64 X.lang) := (hc _ _ (by simp; omega)).trans (by simp [go_sem])
          have k3 : w2.cell? ⟨w.heap.size + 1, 12, none⟩ = some (.int .i64 Y.lang) := (hc _ _ (by simp)).trans (by simp [go_sem])
          have hz2 := HB2.out.size
          have hz0 := HB0.out.size
          simp at hz2
          have l1 : w.heap.size < w2.heap.size := by omega
          have l2 : w.heap.size + 1 < w2.heap.size := by omega
          clear hc hf hk
          go_cut [4] from 39 (fun v4 wx => v4 = .bool ((X.kind == Y.kind && (X.kind == 2 && X.lang != Y.lang)) || ownF X.kind Y.kind) ∧ Below w2.heap.size w2 wx)
          case first =>
           cases hkk : (X.kind == Y.kind) with
           | false =>
             have HRES : Hid (((X.kind == Y.kind && (X.kind == 2 && X.lang != Y.lang)) || ownF X.kind Y.kind) = ownF X.kind Y.kind) := Lib.hid (by rw [hkk]; simp)
             refine wp_region_held_drew (S := (fun Z => Z.cell? ⟨w.heap.size, 0, none⟩ = some (.int .i64 X.kind) ∧ Z.cell? ⟨w.heap.size + 1, 0, none⟩ = some (.int .i64 Y.kind) ∧ Z.cell? ⟨w.heap.size, 12, none⟩ = some (.int .i64 X.lang) ∧ Z.cell? ⟨w.heap.size + 1, 12, none⟩ = some (.int .i64 Y.lang))) (by kernel_rfl) ⟨by simp [go_sem, *], by simp [go_sem, *], by simp [go_sem, *], by simp [go_sem, *]⟩ (fun hHeld => ?_)
             refine takeD (i := 0) (v := .pointer (some ⟨w.heap.size, 0, none⟩)) (k := 44) rfl rfl (by kernel_rfl) (by kernel_rfl) (by kernel_rfl) (fun _ _ _ h => h) (Or.inl ⟨by rfl, fun z hz => by (obtain ⟨z0, z1, z2, z3⟩ := hz; go_simp)⟩) hHeld ?_
             try simp only [Act.put, sia, sc0, scs]
             refine takeD (i := 1) (v := .int .i64 X.kind) (k := 45) rfl rfl (by kernel_rfl) (by kernel_rfl) (by kernel_rfl) (fun _ _ _ h => h) (Or.inl ⟨by rfl, fun z hz => by (obtain ⟨z0, z1, z2, z3⟩ := hz; go_simp)⟩) hHeld ?_
             try simp only [Act.put, sia, sc0, scs]
             refine takeD (i := 2) (v := .pointer (some ⟨w.heap.size + 1, 0, none⟩)) (k := 46) rfl rfl (by kernel_rfl) (by kernel_rfl) (by kernel_rfl) (fun _ _ _ h => h) (Or.inl ⟨by rfl, fun z hz => by (obtain ⟨z0, z1, z2, z3⟩ := hz; go_simp)⟩) hHeld ?_
             try simp only [Act.put, sia, sc0, scs]
             refine takeD (i := 3) (v := .int .i64 Y.kind) (k := 47) rfl rfl (by kernel_rfl) (by kernel_rfl) (by kernel_rfl) (fun _ _ _ h => h) (Or.inl ⟨by rfl, fun z hz => by (obtain ⟨z0, z1, z2, z3⟩ := hz; go_simp)⟩) hHeld ?_
             try simp only [Act.put, sia, sc0, scs]
             refine takeD (i := 4) (v := .bool false) (k := 48) rfl rfl (by kernel_rfl) (by kernel_rfl) (by kernel_rfl) (fun _ _ _ h => h) (Or.inl ⟨by rfl, fun z hz => by (obtain ⟨z0, z1, z2, z3⟩ := hz; go_simp)⟩) hHeld ?_
             try simp only [Act.put, sia, sc0, scs]
             refine takeD (i := 5) (v := .bool false) (k := 49) rfl rfl (by kernel_rfl) (by kernel_rfl) (by kernel_rfl) (fun _ _ _ h => h) (Or.inl ⟨by rfl, fun z hz => by (obtain ⟨z0, z1, z2, z3⟩ := hz; go_simp)⟩) hHeld ?_
             try simp only [Act.put, sia, sc0, scs]
             refine takeD (i := 6) (v := undef) (k := 50) rfl rfl (by kernel_rfl) (by kernel_rfl) (by kernel_rfl) (fun _ _ _ h => h) (Or.inr ⟨by rfl, rfl⟩) hHeld ?_
             try simp only [Act.put, sia, sc0, scs]
             refine takeD (i := 7) (v := undef) (k := 51) rfl rfl (by kernel_rfl) (by kernel_rfl) (by kernel_rfl) (fun _ _ _ h => h) (Or.inr ⟨by rfl, rfl⟩) hHeld ?_
             try simp only [Act.put, sia, sc0, scs]
             refine takeD (i := 8) (v := undef) (k := 52) rfl rfl (by kernel_rfl) (by kernel_rfl) (by kernel_rfl) (fun _ _ _ h => h) (Or.inr ⟨by rfl, rfl⟩) hHeld ?_
             try simp only [Act.put, sia, sc0, scs]
             refine takeD (i := 9) (v := .bool false) (k := 53) rfl rfl (by kernel_rfl) (by kernel_rfl) (by kernel_rfl) (fun _ _ _ h => h) (Or.inl ⟨by rfl, fun z hz => by (obtain ⟨z0, z1, z2, z3⟩ := hz; go_simp)⟩) hHeld ?_
             try simp only [Act.put, sia, sc0, scs]
             refine takeD (i := 10) (v := .bool false) (k := 54) rfl rfl (by kernel_rfl) (by kernel_rfl) (by kernel_rfl) (fun _ _ _ h => h) (Or.inl ⟨by rfl, fun z hz => by (obtain ⟨z0, z1, z2, z3⟩ := hz; go_simp)⟩) hHeld ?_
             try simp only [Act.put, sia, sc0, scs]
             refine takeD (i := 11) (v := undef) (k := 55) rfl rfl (by kernel_rfl) (by kernel_rfl) (by kernel_rfl) (fun _ _ _ h => h) (Or.inr ⟨by rfl, rfl⟩) hHeld ?_
             try simp only [Act.put, sia, sc0, scs]
             refine takeD (i := 12) (v := undef) (k := 56) rfl rfl (by kernel_rfl) (by kernel_rfl) (by kernel_rfl) (fun _ _ _ h => h) (Or.inr ⟨by rfl, rfl⟩) hHeld ?_
             try simp only [Act.put, sia, sc0, scs]
             refine takeD (i := 13) (v := undef) (k := 57) rfl rfl (by kernel_rfl) (by kernel_rfl) (by kernel_rfl) (fun _ _ _ h => h) (Or.inr ⟨by rfl, rfl⟩) hHeld ?_
             try simp only [Act.put, sia, sc0, scs]
             refine takeD (i := 14) (v := undef) (k := 58) rfl rfl (by kernel_rfl) (by kernel_rfl) (by kernel_rfl) (fun _ _ _ h => h) (Or.inr ⟨by rfl, rfl⟩) hHeld ?_
             try simp only [Act.put, sia, sc0, scs]
             refine takeD (i := 15) (v := undef) (k := 59) rfl rfl (by kernel_rfl) (by kernel_rfl) (by kernel_rfl) (fun _ _ _ h => h) (Or.inr ⟨by rfl, rfl⟩) hHeld ?_
             try simp only [Act.put, sia, sc0, scs]
             refine takeD (i := 16) (v := .bool false) (k := 60) rfl rfl (by kernel_rfl) (by kernel_rfl) (by kernel_rfl) (fun _ _ _ h => h) (Or.inl ⟨by rfl, fun z hz => by (obtain ⟨z0, z1, z2, z3⟩ := hz; go_simp)⟩) hHeld ?_
             try simp only [Act.put, sia, sc0, scs]
             refine takeD (i := 17) (v := .bool false) (k := 61) rfl rfl (by kernel_rfl) (by kernel_rfl) (by kernel_rfl) (fun _ _ _ h => h) (Or.inl ⟨by rfl, fun z hz => by (obtain ⟨z0, z1, z2, z3⟩ := hz; go_simp)⟩) hHeld ?_
             try simp only [Act.put, sia, sc0, scs]
             refine takeD (i := 19) (v := .pointer (some ⟨w.heap.size, 0, none⟩)) (k := 63) rfl rfl (by kernel_rfl) (by kernel_rfl) (by kernel_rfl) (fun _ _ _ h => h) (Or.inl ⟨by rfl, fun z hz => by (obtain ⟨z0, z1, z2, z3⟩ := hz; go_simp)⟩) hHeld ?_
             try simp only [Act.put, sia, sc0, scs]
             refine takeD (i := 20) (v := .int .i64 X.kind) (k := 64) rfl rfl (by kernel_rfl) (by kernel_rfl) (by kernel_rfl) (fun _ _ _ h => h) (Or.inl ⟨by rfl, fun z hz => by (obtain ⟨z0, z1, z2, z3⟩ := hz; go_simp)⟩) hHeld ?_
             try simp only [Act.put, sia, sc0, scs]
             refine takeD (i := 21) (v := .pointer (some ⟨w.heap.size + 1, 0, none⟩)) (k := 65) rfl rfl (by kernel_rfl) (by kernel_rfl) (by kernel_rfl) (fun _ _ _ h => h) (Or.inl ⟨by rfl, fun z hz => by (obtain ⟨z0, z1, z2, z3⟩ := hz; go_simp)⟩) hHeld ?_
             try simp only [Act.put, sia, sc0, scs]
             refine takeD (i := 22) (v := .int .i64 Y.kind) (k := 66) rfl rfl (by kernel_rfl) (by kernel_rfl) (by kernel_rfl) (fun _ _ _ h => h) (Or.inl ⟨by rfl, fun z hz => by (obtain ⟨z0, z1, z2, z3⟩ := hz; go_simp)⟩) hHeld ?_
             try simp only [Act.put, sia, sc0, scs]
             refine takeD (i := 23) (v := pairV X.kind Y.kind) (k := 67) rfl rfl (by kernel_rfl) (by kernel_rfl) (by kernel_rfl) (fun _ _ _ h => h) (Or.inl ⟨by rfl, fun z hz => by (obtain ⟨z0, z1, z2, z3⟩ := hz; go_simp)⟩) hHeld ?_
             try simp only [Act.put, sia, sc0, scs]
             refine wpAnyH_ready (rs := [18]) (by kernel_rfl) (by simp) (AllReadyH.cons rfl (fun K hK => ?_) AllReadyH.nil)
             go_simp
             refine (own_any _).mono ?_
             rintro e w4 ⟨bb, nn, D, rfl, hown, hat, hb4⟩
             have hlk := own_look hown hat HKX.out HKY.out
             have HB4 := Lib.hid hb4
             have m0 := step_cell hb4 hHeld.1
             have m1 := step_cell hb4 hHeld.2.1
             have m2 := step_cellO hb4 hHeld.2.2.1
             have m3 := step_cellO hb4 hHeld.2.2.2
             clear hb4 hown hat hHeld
             go_wp2_with fail
             refine hK.out _ _ ⟨m0, m1, m2, m3⟩ (fun hHeld => ?_)
             clear hK K
             try simp only [Act.put, sia, sc0, scs]
             refine wpAnyH_ready (rs := [24]) (by kernel_rfl) (by simp) (AllReadyH.cons rfl (fun K hK => ?_) AllReadyH.nil)
             go_simp
             refine hK.out _ _ hHeld (fun hHeld => ?_)
             clear hK K
             try simp only [Act.put, sia, sc0, scs]
             refine takeD (i := 25) (v := .bool (ownF X.kind Y.kind)) (k := 69) rfl rfl (by kernel_rfl) (by kernel_rfl) (by kernel_rfl) (fun _ _ _ h => h) (Or.inl ⟨by rfl, fun z hz => by (obtain ⟨z0, z1, z2, z3⟩ := hz; go_simp)⟩) hHeld ?_
             try simp only [Act.put, sia, sc0, scs]
             refine takeD (i := 26) (v := .bool (ownF X.kind Y.kind)) (k := 4) rfl rfl (by kernel_rfl) (by kernel_rfl) (by kernel_rfl) (fun _ _ _ h => h) (Or.inl ⟨by rfl, fun z hz => by (obtain ⟨z0, z1, z2, z3⟩ := hz; go_simp)⟩) hHeld ?_
             try simp only [Act.put, sia, sc0, scs]
             refine wpAnyH_done (by kernel_rfl) ?_ _
             go_wp2_with fail
             go_meet
             case rel => exact ⟨by rw [HRES.out], (Below.refl _ _).drew.trans (HB4.out.mono (by simp))⟩
           | true =>
             cases h2 : (X.kind == 2) with
             | false =>
               have HRES : Hid (((X.kind == Y.kind && (X.kind == 2 && X.lang != Y.lang)) || ownF X.kind Y.kind) = ownF X.kind Y.kind) := Lib.hid (by rw [h2]; simp)
               refine wp_region_held_drew (S := (fun Z => Z.cell? ⟨w.heap.size, 0, none⟩ = some (.int .i64 X.kind) ∧ Z.cell? ⟨w.heap.size + 1, 0, none⟩ = some (.int .i64 Y.kind) ∧ Z.cell? ⟨w.heap.size, 12, none⟩ = some (.int .i64 X.lang) ∧ Z.cell? ⟨w.heap.size + 1, 12, none⟩ = some (.int .i64 Y.lang))) (by kernel_rfl) ⟨by simp [go_sem, *], by simp [go_sem, *], by simp [go_sem, *], by simp [go_sem, *]⟩ (fun hHeld => ?_)
               refine takeD (i := 0) (v := .pointer (some ⟨w.heap.size, 0, none⟩)) (k := 44) rfl rfl (by kernel_rfl) (by kernel_rfl) (by kernel_rfl) (fun _ _ _ h => h) (Or.inl ⟨by rfl, fun z hz => by (obtain ⟨z0, z1, z2, z3⟩ := hz; go_simp)⟩) hHeld ?_
               try simp only [Act.put, sia, sc0, scs]
               refine takeD (i := 1) (v := .int .i64 X.kind) (k := 45) rfl rfl (by kernel_rfl) (by kernel_rfl) (by kernel_rfl) (fun _ _ _ h => h) (Or.inl ⟨by rfl, fun z hz => by (obtain ⟨z0, z1, z2, z3⟩ := hz; go_simp)⟩) hHeld ?_
               try simp only [Act.put, sia, sc0, scs]
               refine takeD (i := 2) (v := .pointer (some ⟨w.heap.size + 1, 0, none⟩)) (k := 46) rfl rfl (by kernel_rfl) (by kernel_rfl) (by kernel_rfl) (fun _ _ _ h => h) (Or.inl ⟨by rfl, fun z hz => by (obtain ⟨z0, z1, z2, z3⟩ := hz; go_simp)⟩) hHeld ?_
               try simp only [Act.put, sia, sc0, scs]
               refine takeD (i := 3) (v := .int .i64 Y.kind) (k := 47) rfl rfl (by kernel_rfl) (by kernel_rfl) (by kernel_rfl) (fun _ _ _ h => h) (Or.inl ⟨by rfl, fun z hz => by (obtain ⟨z0, z1, z2, z3⟩ := hz; go_simp)⟩) hHeld ?_
               try simp only [Act.put, sia, sc0, scs]
               refine takeD (i := 4) (v := .bool true) (k := 48) rfl rfl (by kernel_rfl) (by kernel_rfl) (by kernel_rfl) (fun _ _ _ h => h) (Or.inl ⟨by rfl, fun z hz => by (obtain ⟨z0, z1, z2, z3⟩ := hz; go_simp)⟩) hHeld ?_
               try simp only [Act.put, sia, sc0, scs]
               refine takeD (i := 5) (v := .bool true) (k := 49) rfl rfl (by kernel_rfl) (by kernel_rfl) (by kernel_rfl) (fun _ _ _ h => h) (Or.inl ⟨by rfl, fun z hz => by (obtain ⟨z0, z1, z2, z3⟩ := hz; go_simp)⟩) hHeld ?_
               try simp only [Act.put, sia, sc0, scs]
               refine takeD (i := 6) (v := .pointer (some ⟨w.heap.size, 0, none⟩)) (k := 50) rfl rfl (by kernel_rfl) (by kernel_rfl) (by kernel_rfl) (fun _ _ _ h => h) (Or.inl ⟨by rfl, fun z hz => by (obtain ⟨z0, z1, z2, z3⟩ := hz; go_simp)⟩) hHeld ?_
               try simp only [Act.put, sia, sc0, scs]
               refine takeD (i := 7) (v := .int .i64 X.kind) (k := 51) rfl rfl (by kernel_rfl) (by kernel_rfl) (by kernel_rfl) (fun _ _ _ h => h) (Or.inl ⟨by rfl, fun z hz => by (obtain ⟨z0, z1, z2, z3⟩ := hz; go_simp)⟩) hHeld ?_
               try simp only [Act.put, sia, sc0, scs]
               refine takeD (i := 8) (v := .bool false) (k := 52) rfl rfl (by kernel_rfl) (by kernel_rfl) (by kernel_rfl) (fun _ _ _ h => h) (Or.inl ⟨by rfl, fun z hz => by (obtain ⟨z0, z1, z2, z3⟩ := hz; go_simp)⟩) hHeld ?_
               try simp only [Act.put, sia, sc0, scs]
               refine takeD (i := 9) (v := .bool false) (k := 53) rfl rfl (by kernel_rfl) (by kernel_rfl) (by kernel_rfl) (fun _ _ _ h => h) (Or.inl ⟨by rfl, fun z hz => by (obtain ⟨z0, z1, z2, z3⟩ := hz; go_simp)⟩) hHeld ?_
               try simp only [Act.put, sia, sc0, scs]
               refine takeD (i := 10) (v := .bool false) (k := 54) rfl rfl (by kernel_rfl) (by kernel_rfl) (by kernel_rfl) (fun _ _ _ h => h) (Or.inl ⟨by rfl, fun z hz => by (obtain ⟨z0, z1, z2, z3⟩ := hz; go_simp)⟩) hHeld ?_
               try simp only [Act.put, sia, sc0, scs]
               refine takeD (i := 11) (v := undef) (k := 55) rfl rfl (by kernel_rfl) (by kernel_rfl) (by kernel_rfl) (fun _ _ _ h => h) (Or.inr ⟨by rfl, rfl⟩) hHeld ?_
               try simp only [Act.put, sia, sc0, scs]
               refine takeD (i := 12) (v := undef) (k := 56) rfl rfl (by kernel_rfl) (by kernel_rfl) (by kernel_rfl) (fun _ _ _ h => h) (Or.inr ⟨by rfl, rfl⟩) hHeld ?_
               try simp only [Act.put, sia, sc0, scs]
               refine takeD (i := 13) (v := undef) (k := 57) rfl rfl (by kernel_rfl) (by kernel_rfl) (by kernel_rfl) (fun _ _ _ h => h) (Or.inr ⟨by rfl, rfl⟩) hHeld ?_
               try simp only [Act.put, sia, sc0, scs]
               refine takeD (i := 14) (v := undef) (k := 58) rfl rfl (by kernel_rfl) (by kernel_rfl) (by kernel_rfl) (fun _ _ _ h => h) (Or.inr ⟨by rfl, rfl⟩) hHeld ?_
               try simp only [Act.put, sia, sc0, scs]
               refine takeD (i := 15) (v := undef) (k := 59) rfl rfl (by kernel_rfl) (by kernel_rfl) (by kernel_rfl) (fun _ _ _ h => h) (Or.inr ⟨by rfl, rfl⟩) hHeld ?_
               try simp only [Act.put, sia, sc0, scs]
               refine takeD (i := 16) (v := .bool false) (k := 60) rfl rfl (by kernel_rfl) (by kernel_rfl) (by kernel_rfl) (fun _ _ _ h => h) (Or.inl ⟨by rfl, fun z hz => by (obtain ⟨z0, z1, z2, z3⟩ := hz; go_simp)⟩) hHeld ?_
               try simp only [Act.put, sia, sc0, scs]
               refine takeD (i := 17) (v := .bool false) (k := 61) rfl rfl (by kernel_rfl) (by kernel_rfl) (by kernel_rfl) (fun _ _ _ h => h) (Or.inl ⟨by rfl, fun z hz => by (obtain ⟨z0, z1, z2, z3⟩ := hz; go_simp)⟩) hHeld ?_
               try simp only [Act.put, sia, sc0, scs]
               refine takeD (i := 19) (v := .pointer (some ⟨w.heap.size, 0, none⟩)) (k := 63) rfl rfl (by kernel_rfl) (by kernel_rfl) (by kernel_rfl) (fun _ _ _ h => h) (Or.inl ⟨by rfl, fun z hz => by (obtain ⟨z0, z1, z2, z3⟩ := hz; go_simp)⟩) hHeld ?_
               try simp only [Act.put, sia, sc0, scs]
               refine takeD (i := 20) (v := .int .i64 X.kind) (k := 64) rfl rfl (by kernel_rfl) (by kernel_rfl) (by kernel_rfl) (fun _ _ _ h => h) (Or.inl ⟨by rfl, fun z hz => by (obtain ⟨z0, z1, z2, z3⟩ := hz; go_simp)⟩) hHeld ?_
               try simp only [Act.put, sia, sc0, scs]
               refine takeD (i := 21) (v := .pointer (some ⟨w.heap.size + 1, 0, none⟩)) (k := 65) rfl rfl (by kernel_rfl) (by kernel_rfl) (by kernel_rfl) (fun _ _ _ h => h) (Or.inl ⟨by rfl, fun z hz => by (obtain ⟨z0, z1, z2, z3⟩ := hz; go_simp)⟩) hHeld ?_
               try simp only [Act.put, sia, sc0, scs]
               refine takeD (i := 22) (v := .int .i64 Y.kind) (k := 66) rfl rfl (by kernel_rfl) (by kernel_rfl) (by kernel_rfl) (fun _ _ _ h => h) (Or.inl ⟨by rfl, fun z hz => by (obtain ⟨z0, z1, z2, z3⟩ := hz; go_simp)⟩) hHeld ?_
               try simp only [Act.put, sia, sc0, scs]
               refine takeD (i := 23) (v := pairV X.kind Y.kind) (k := 67) rfl rfl (by kernel_rfl) (by kernel_rfl) (by kernel_rfl) (fun _ _ _ h => h) (Or.inl ⟨by rfl, fun z hz => by (obtain ⟨z0, z1, z2, z3⟩ := hz; go_simp)⟩) hHeld ?_
               try simp only [Act.put, sia, sc0, scs]
               refine wpAnyH_ready (rs := [18]) (by kernel_rfl) (by simp) (AllReadyH.cons rfl (fun K hK => ?_) AllReadyH.nil)
               go_simp
               refine (own_any _).mono ?_
               rintro e w4 ⟨bb, nn, D, rfl, hown, hat, hb4⟩
               have hlk := own_look hown hat HKX.out HKY.out
               have HB4 := Lib.hid hb4
               have m0 := step_cell hb4 hHeld.1
               have m1 := step_cell hb4 hHeld.2.1
               have m2 := step_cellO hb4 hHeld.2.2.1
               have m3 := step_cellO hb4 hHeld.2.2.2
               clear hb4 hown hat hHeld
               go_wp2_with fail
               refine hK.out _ _ ⟨m0, m1, m2, m3⟩ (fun hHeld => ?_)
               clear hK K
               try simp only [Act.put, sia, sc0, scs]
               refine wpAnyH_ready (rs := [24]) (by kernel_rfl) (by simp) (AllReadyH.cons rfl (fun K hK => ?_) AllReadyH.nil)
               go_simp
               refine hK.out _ _ hHeld (fun hHeld => ?_)
               clear hK K
               try simp only [Act.put, sia, sc0, scs]
               refine takeD (i := 25) (v := .bool (ownF X.kind Y.kind)) (k := 69) rfl rfl (by kernel_rfl) (by kernel_rfl) (by kernel_rfl) (fun _ _ _ h => h) (Or.inl ⟨by rfl, fun z hz => by (obtain ⟨z0, z1, z2, z3⟩ := hz; go_simp)⟩) hHeld ?_
               try simp only [Act.put, sia, sc0, scs]
               refine takeD (i := 26) (v := .bool (ownF X.kind Y.kind)) (k := 4) rfl rfl (by kernel_rfl) (by kernel_rfl) (by kernel_rfl) (fun _ _ _ h => h) (Or.inl ⟨by rfl, fun z hz => by (obtain ⟨z0, z1, z2, z3⟩ := hz; go_simp)⟩) hHeld ?_
               try simp only [Act.put, sia, sc0, scs]
               refine wpAnyH_done (by kernel_rfl) ?_ _
               go_wp2_with fail
               go_meet
               case rel => exact ⟨by rw [HRES.out], (Below.refl _ _).drew.trans (HB4.out.mono (by simp))⟩
             | true =>
               cases hlg : (X.lang != Y.lang) with
               | false =>
                 have HRES : Hid (((X.kind == Y.kind && (X.kind == 2 && X.lang != Y.lang)) || ownF X.kind Y.kind) = ownF X.kind Y.kind) := Lib.hid (by rw [hlg]; simp)
                 refine wp_region_held_drew (S := (fun Z => Z.cell? ⟨w.heap.size, 0, none⟩ = some (.int .i64 X.kind) ∧ Z.cell? ⟨w.heap.size + 1, 0, none⟩ = some (.int .i64 Y.kind) ∧ Z.cell? ⟨w.heap.size, 12, none⟩ = some (.int .i64 X.lang) ∧ Z.cell? ⟨w.heap.size + 1, 12, none⟩ = some (.int .i64 Y.lang))) (by kernel_rfl) ⟨by simp [go_sem, *], by simp [go_sem, *], by simp [go_sem, *], by simp [go_sem, *]⟩ (fun hHeld => ?_)
                 refine takeD (i := 0) (v := .pointer (some ⟨w.heap.size, 0, none⟩)) (k := 44) rfl rfl (by kernel_rfl) (by kernel_rfl) (by kernel_rfl) (fun _ _ _ h => h) (Or.inl ⟨by rfl, fun z hz => by (obtain ⟨z0, z1, z2, z3⟩ := hz; go_simp)⟩) hHeld ?_
                 try simp only [Act.put, sia, sc0, scs]
                 refine takeD (i := 1) (v := .int .i64 X.kind) (k := 45) rfl rfl (by kernel_rfl) (by kernel_rfl) (by kernel_rfl) (fun _ _ _ h => h) (Or.inl ⟨by rfl, fun z hz => by (obtain ⟨z0, z1, z2, z3⟩ := hz; go_simp)⟩) hHeld ?_
                 try simp only [Act.put, sia, sc0, scs]
                 refine takeD (i := 2) (v := .pointer (some ⟨w.heap.size + 1, 0, none⟩)) (k := 46) rfl rfl (by kernel_rfl) (by kernel_rfl) (by kernel_rfl) (fun _ _ _ h => h) (Or.inl ⟨by rfl, fun z hz => by (obtain ⟨z0, z1, z2, z3⟩ := hz; go_simp)⟩) hHeld ?_
                 try simp only [Act.put, sia, sc0, scs]
                 refine takeD (i := 3) (v := .int .i64 Y.kind) (k := 47) rfl rfl (by kernel_rfl) (by kernel_rfl) (by kernel_rfl) (fun _ _ _ h => h) (Or.inl ⟨by rfl, fun z hz => by (obtain ⟨z0, z1, z2, z3⟩ := hz; go_simp)⟩) hHeld ?_
                 try simp only [Act.put, sia, sc0, scs]
                 refine takeD (i := 4) (v := .bool true) (k := 48) rfl rfl (by kernel_rfl) (by kernel_rfl) (by kernel_rfl) (fun _ _ _ h => h) (Or.inl ⟨by rfl, fun z hz => by (obtain ⟨z0, z1, z2, z3⟩ := hz; go_simp)⟩) hHeld ?_
                 try simp only [Act.put, sia, sc0, scs]
                 refine takeD (i := 5) (v := .bool true) (k := 49) rfl rfl (by kernel_rfl) (by kernel_rfl) (by kernel_rfl) (fun _ _ _ h => h) (Or.inl ⟨by rfl, fun z hz => by (obtain ⟨z0, z1, z2, z3⟩ := hz; go_simp)⟩) hHeld ?_
                 try simp only [Act.put, sia, sc0, scs]
                 refine takeD (i := 6) (v := .pointer (some ⟨w.heap.size, 0, none⟩)) (k := 50) rfl rfl (by kernel_rfl) (by kernel_rfl) (by kernel_rfl) (fun _ _ _ h => h) (Or.inl ⟨by rfl, fun z hz => by (obtain ⟨z0, z1, z2, z3⟩ := hz; go_simp)⟩) hHeld ?_
                 try simp only [Act.put, sia, sc0, scs]
                 refine takeD (i := 7) (v := .int .i64 X.kind) (k := 51) rfl rfl (by kernel_rfl) (by kernel_rfl) (by kernel_rfl) (fun _ _ _ h => h) (Or.inl ⟨by rfl, fun z hz => by (obtain ⟨z0, z1, z2, z3⟩ := hz; go_simp)⟩) hHeld ?_
                 try simp only [Act.put, sia, sc0, scs]
                 refine takeD (i := 8) (v := .bool true) (k := 52) rfl rfl (by kernel_rfl) (by kernel_rfl) (by kernel_rfl) (fun _ _ _ h => h) (Or.inl ⟨by rfl, fun z hz => by (obtain ⟨z0, z1, z2, z3⟩ := hz; go_simp)⟩) hHeld ?_
                 try simp only [Act.put, sia, sc0, scs]
                 refine takeD (i := 9) (v := .bool true) (k := 53) rfl rfl (by kernel_rfl) (by kernel_rfl) (by kernel_rfl) (fun _ _ _ h => h) (Or.inl ⟨by rfl, fun z hz => by (obtain ⟨z0, z1, z2, z3⟩ := hz; go_simp)⟩) hHeld ?_
                 try simp only [Act.put, sia, sc0, scs]
                 refine takeD (i := 10) (v := .bool true) (k := 54) rfl rfl (by kernel_rfl) (by kernel_rfl) (by kernel_rfl) (fun _ _ _ h => h) (Or.inl ⟨by rfl, fun z hz => by (obtain ⟨z0, z1, z2, z3⟩ := hz; go_simp)⟩) hHeld ?_
                 try simp only [Act.put, sia, sc0, scs]
                 refine takeD (i := 11) (v := .pointer (some ⟨w.heap.size, 12, none⟩)) (k := 55) rfl rfl (by kernel_rfl) (by kernel_rfl) (by kernel_rfl) (fun _ _ _ h => h) (Or.inl ⟨by rfl, fun z hz => by (obtain ⟨z0, z1, z2, z3⟩ := hz; go_simp)⟩) hHeld ?_
                 try simp only [Act.put, sia, sc0, scs]
                 refine takeD (i := 12) (v := .int .i64 X.lang) (k := 56) rfl rfl (by kernel_rfl) (by kernel_rfl) (by kernel_rfl) (fun _ _ _ h => h) (Or.inl ⟨by rfl, fun z hz => by (obtain ⟨z0, z1, z2, z3⟩ := hz; go_simp)⟩) hHeld ?_
                 try simp only [Act.put, sia, sc0, scs]
                 refine takeD (i := 13) (v := .pointer (some ⟨w.heap.size + 1, 12, none⟩)) (k := 57) rfl rfl (by kernel_rfl) (by kernel_rfl) (by kernel_rfl) (fun _ _ _ h => h) (Or.inl ⟨by rfl, fun z hz => by (obtain ⟨z0, z1, z2, z3⟩ := hz; go_simp)⟩) hHeld ?_
                 try simp only [Act.put, sia, sc0, scs]
                 refine takeD (i := 14) (v := .int .i64 Y.lang) (k := 58) rfl rfl (by kernel_rfl) (by kernel_rfl) (by kernel_rfl) (fun _ _ _ h => h) (Or.inl ⟨by rfl, fun z hz => by (obtain ⟨z0, z1, z2, z3⟩ := hz; go_simp)⟩) hHeld ?_
                 try simp only [Act.put, sia, sc0, scs]
                 refine takeD (i := 15) (v := .bool false) (k := 59) rfl rfl (by kernel_rfl) (by kernel_rfl) (by kernel_rfl) (fun _ _ _ h => h) (Or.inl ⟨by rfl, fun z hz => by (obtain ⟨z0, z1, z2, z3⟩ := hz; go_simp)⟩) hHeld ?_
                 try simp only [Act.put, sia, sc0, scs]
                 refine takeD (i := 16) (v := .bool false) (k := 60) rfl rfl (by kernel_rfl) (by kernel_rfl) (by kernel_rfl) (fun _ _ _ h => h) (Or.inl ⟨by rfl, fun z hz => by (obtain ⟨z0, z1, z2, z3⟩ := hz; go_simp)⟩) hHeld ?_
                 try simp only [Act.put, sia, sc0, scs]
                 refine takeD (i := 17) (v := .bool false) (k := 61) rfl rfl (by kernel_rfl) (by kernel_rfl) (by kernel_rfl) (fun _ _ _ h => h) (Or.inl ⟨by rfl, fun z hz => by (obtain ⟨z0, z1, z2, z3⟩ := hz; go_simp)⟩) hHeld ?_
                 try simp only [Act.put, sia, sc0, scs]
                 refine takeD (i := 19) (v := .pointer (some ⟨w.heap.size, 0, none⟩)) (k := 63) rfl rfl (by kernel_rfl) (by kernel_rfl) (by kernel_rfl) (fun _ _ _ h => h) (Or.inl ⟨by rfl, fun z hz => by (obtain ⟨z0, z1, z2, z3⟩ := hz; go_simp)⟩) hHeld ?_
                 try simp only [Act.put, sia, sc0, scs]
                 refine takeD (i := 20) (v := .int .i64 X.kind) (k := 64) rfl rfl (by kernel_rfl) (by kernel_rfl) (by kernel_rfl) (fun _ _ _ h => h) (Or.inl ⟨by rfl, fun z hz => by (obtain ⟨z0, z1, z2, z3⟩ := hz; go_simp)⟩) hHeld ?_
                 try simp only [Act.put, sia, sc0, scs]
                 refine takeD (i := 21) (v := .pointer (some ⟨w.heap.size + 1, 0, none⟩)) (k := 65) rfl rfl (by kernel_rfl) (by kernel_rfl) (by kernel_rfl) (fun _ _ _ h => h) (Or.inl ⟨by rfl, fun z hz => by (obtain ⟨z0, z1, z2, z3⟩ := hz; go_simp)⟩) hHeld ?_
                 try simp only [Act.put, sia, sc0, scs]
                 refine takeD (i := 22) (v := .int .i64 Y.kind) (k := 66) rfl rfl (by kernel_rfl) (by kernel_rfl) (by kernel_rfl) (fun _ _ _ h => h) (Or.inl ⟨by rfl, fun z hz => by (obtain ⟨z0, z1, z2, z3⟩ := hz; go_simp)⟩) hHeld ?_
                 try simp only [Act.put, sia, sc0, scs]
                 refine takeD (i := 23) (v := pairV X.kind Y.kind) (k := 67) rfl rfl (by kernel_rfl) (by kernel_rfl) (by kernel_rfl) (fun _ _ _ h => h) (Or.inl ⟨by rfl, fun z hz => by (obtain ⟨z0, z1, z2, z3⟩ := hz; go_simp)⟩) hHeld ?_
                 try simp only [Act.put, sia, sc0, scs]
                 refine wpAnyH_ready (rs := [18]) (by kernel_rfl) (by simp) (AllReadyH.cons rfl (fun K hK => ?_) AllReadyH.nil)
                 go_simp
                 refine (own_any _).mono ?_
                 rintro e w4 ⟨bb, nn, D, rfl, hown, hat, hb4⟩
                 have hlk := own_look hown hat HKX.out HKY.out
                 have HB4 := Lib.hid hb4
                 have m0 := step_cell hb4 hHeld.1
                 have m1 := step_cell hb4 hHeld.2.1
                 have m2 := step_cellO hb4 hHeld.2.2.1
                 have m3 := step_cellO hb4 hHeld.2.2.2
                 clear hb4 hown hat hHeld
                 go_wp2_with fail
                 refine hK.out _ _ ⟨m0, m1, m2, m3⟩ (fun hHeld => ?_)
                 clear hK K
                 try simp only [Act.put, sia, sc0, scs]
                 refine wpAnyH_ready (rs := [24]) (by kernel_rfl) (by simp) (AllReadyH.cons rfl (fun K hK => ?_) AllReadyH.nil)
                 go_simp
                 refine hK.out _ _ hHeld (fun hHeld => ?_)
                 clear hK K
                 try simp only [Act.put, sia, sc0, scs]
                 refine takeD (i := 25) (v := .bool (ownF X.kind Y.kind)) (k := 69) rfl rfl (by kernel_rfl) (by kernel_rfl) (by kernel_rfl) (fun _ _ _ h => h) (Or.inl ⟨by rfl, fun z hz => by (obtain ⟨z0, z1, z2, z3⟩ := hz; go_simp)⟩) hHeld ?_
                 try simp only [Act.put, sia, sc0, scs]
                 refine takeD (i := 26) (v := .bool (ownF X.kind Y.kind)) (k := 4) rfl rfl (by kernel_rfl) (by kernel_rfl) (by kernel_rfl) (fun _ _ _ h => h) (Or.inl ⟨by rfl, fun z hz => by (obtain ⟨z0, z1, z2, z3⟩ := hz; go_simp)⟩) hHeld ?_
                 try simp only [Act.put, sia, sc0, scs]
                 refine wpAnyH_done (by kernel_rfl) ?_ _
                 go_wp2_with fail
                 go_meet
                 case rel => exact ⟨by rw [HRES.out], (Below.refl _ _).drew.trans (HB4.out.mono (by simp))⟩
               | true =>
                 have HRES : Hid (((X.kind == Y.kind && (X.kind == 2 && X.lang != Y.lang)) || ownF X.kind Y.kind) = true) := Lib.hid (by rw [hkk, h2, hlg]; simp)
                 refine wp_region_held_drew (S := (fun Z => Z.cell? ⟨w.heap.size, 0, none⟩ = some (.int .i64 X.kind) ∧ Z.cell? ⟨w.heap.size + 1, 0, none⟩ = some (.int .i64 Y.kind) ∧ Z.cell? ⟨w.heap.size, 12, none⟩ = some (.int .i64 X.lang) ∧ Z.cell? ⟨w.heap.size + 1, 12, none⟩ = some (.int .i64 Y.lang))) (by kernel_rfl) ⟨by simp [go_sem, *], by simp [go_sem, *], by simp [go_sem, *], by simp [go_sem, *]⟩ (fun hHeld => ?_)
                 refine takeD (i := 0) (v := .pointer (some ⟨w.heap.size, 0, none⟩)) (k := 44) rfl rfl (by kernel_rfl) (by kernel_rfl) (by kernel_rfl) (fun _ _ _ h => h) (Or.inl ⟨by rfl, fun z hz => by (obtain ⟨z0, z1, z2, z3⟩ := hz; go_simp)⟩) hHeld ?_
                 try simp only [Act.put, sia, sc0, scs]
                 refine takeD (i := 1) (v := .int .i64 X.kind) (k := 45) rfl rfl (by kernel_rfl) (by kernel_rfl) (by kernel_rfl) (fun _ _ _ h => h) (Or.inl ⟨by rfl, fun z hz => by (obtain ⟨z0, z1, z2, z3⟩ := hz; go_simp)⟩) hHeld ?_
                 try simp only [Act.put, sia, sc0, scs]
                 refine takeD (i := 2) (v := .pointer (some ⟨w.heap.size + 1, 0, none⟩)) (k := 46) rfl rfl (by kernel_rfl) (by kernel_rfl) (by kernel_rfl) (fun _ _ _ h => h) (Or.inl ⟨by rfl, fun z hz => by (obtain ⟨z0, z1, z2, z3⟩ := hz; go_simp)⟩) hHeld ?_
                 try simp only [Act.put, sia, sc0, scs]
                 refine takeD (i := 3) (v := .int .i64 Y.kind) (k := 47) rfl rfl (by kernel_rfl) (by kernel_rfl) (by kernel_rfl) (fun _ _ _ h => h) (Or.inl ⟨by rfl, fun z hz => by (obtain ⟨z0, z1, z2, z3⟩ := hz; go_simp)⟩) hHeld ?_
                 try simp only [Act.put, sia, sc0, scs]
                 refine takeD (i := 4) (v := .bool true) (k := 48) rfl rfl (by kernel_rfl) (by kernel_rfl) (by kernel_rfl) (fun _ _ _ h => h) (Or.inl ⟨by rfl, fun z hz => by (obtain ⟨z0, z1, z2, z3⟩ := hz; go_simp)⟩) hHeld ?_
                 try simp only [Act.put, sia, sc0, scs]
                 refine takeD (i := 5) (v := .bool true) (k := 49) rfl rfl (by kernel_rfl) (by kernel_rfl) (by kernel_rfl) (fun _ _ _ h => h) (Or.inl ⟨by rfl, fun z hz => by (obtain ⟨z0, z1, z2, z3⟩ := hz; go_simp)⟩) hHeld ?_
                 try simp only [Act.put, sia, sc0, scs]
                 refine takeD (i := 6) (v := .pointer (some ⟨w.heap.size, 0, none⟩)) (k := 50) rfl rfl (by kernel_rfl) (by kernel_rfl) (by kernel_rfl) (fun _ _ _ h => h) (Or.inl ⟨by rfl, fun z hz => by (obtain ⟨z0, z1, z2, z3⟩ := hz; go_simp)⟩) hHeld ?_
                 try simp only [Act.put, sia, sc0, scs]
                 refine takeD (i := 7) (v := .int .i64 X.kind) (k := 51) rfl rfl (by kernel_rfl) (by kernel_rfl) (by kernel_rfl) (fun _ _ _ h => h) (Or.inl ⟨by rfl, fun z hz => by (obtain ⟨z0, z1, z2, z3⟩ := hz; go_simp)⟩) hHeld ?_
                 try simp only [Act.put, sia, sc0, scs]
                 refine takeD (i := 8) (v := .bool true) (k := 52) rfl rfl (by kernel_rfl) (by kernel_rfl) (by kernel_rfl) (fun _ _ _ h => h) (Or.inl ⟨by rfl, fun z hz => by (obtain ⟨z0, z1, z2, z3⟩ := hz; go_simp)⟩) hHeld ?_
                 try simp only [Act.put, sia, sc0, scs]
                 refine takeD (i := 9) (v := .bool true) (k := 53) rfl rfl (by kernel_rfl) (by kernel_rfl) (by kernel_rfl) (fun _ _ _ h => h) (Or.inl ⟨by rfl, fun z hz => by (obtain ⟨z0, z1, z2, z3⟩ := hz; go_simp)⟩) hHeld ?_
                 try simp only [Act.put, sia, sc0, scs]
                 refine takeD (i := 10) (v := .bool true) (k := 54) rfl rfl (by kernel_rfl) (by kernel_rfl) (by kernel_rfl) (fun _ _ _ h => h) (Or.inl ⟨by rfl, fun z hz => by (obtain ⟨z0, z1, z2, z3⟩ := hz; go_simp)⟩) hHeld ?_
                 try simp only [Act.put, sia, sc0, scs]
                 refine takeD (i := 11) (v := .pointer (some ⟨w.heap.size, 12, none⟩)) (k := 55) rfl rfl (by kernel_rfl) (by kernel_rfl) (by kernel_rfl) (fun _ _ _ h => h) (Or.inl ⟨by rfl, fun z hz => by (obtain ⟨z0, z1, z2, z3⟩ := hz; go_simp)⟩) hHeld ?_
                 try simp only [Act.put, sia, sc0, scs]
                 refine takeD (i := 12) (v := .int .i64 X.lang) (k := 56) rfl rfl (by kernel_rfl) (by kernel_rfl) (by kernel_rfl) (fun _ _ _ h => h) (Or.inl ⟨by rfl, fun z hz => by (obtain ⟨z0, z1, z2, z3⟩ := hz; go_simp)⟩) hHeld ?_
                 try simp only [Act.put, sia, sc0, scs]
                 refine takeD (i := 13) (v := .pointer (some ⟨w.heap.size + 1, 12, none⟩)) (k := 57) rfl rfl (by kernel_rfl) (by kernel_rfl) (by kernel_rfl) (fun _ _ _ h => h) (Or.inl ⟨by rfl, fun z hz => by (obtain ⟨z0, z1, z2, z3⟩ := hz; go_simp)⟩) hHeld ?_
                 try simp only [Act.put, sia, sc0, scs]
                 refine takeD (i := 14) (v := .int .i64 Y.lang) (k := 58) rfl rfl (by kernel_rfl) (by kernel_rfl) (by kernel_rfl) (fun _ _ _ h => h) (Or.inl ⟨by rfl, fun z hz => by (obtain ⟨z0, z1, z2, z3⟩ := hz; go_simp)⟩) hHeld ?_
                 try simp only [Act.put, sia, sc0, scs]
                 refine takeD (i := 15) (v := .bool true) (k := 59) rfl rfl (by kernel_rfl) (by kernel_rfl) (by kernel_rfl) (fun _ _ _ h => h) (Or.inl ⟨by rfl, fun z hz => by (obtain ⟨z0, z1, z2, z3⟩ := hz; go_simp)⟩) hHeld ?_
                 try simp only [Act.put, sia, sc0, scs]
                 refine takeD (i := 16) (v := .bool true) (k := 60) rfl rfl (by kernel_rfl) (by kernel_rfl) (by kernel_rfl) (fun _ _ _ h => h) (Or.inl ⟨by rfl, fun z hz => by (obtain ⟨z0, z1, z2, z3⟩ := hz; go_simp)⟩) hHeld ?_
                 try simp only [Act.put, sia, sc0, scs]
                 refine takeD (i := 17) (v := .bool true) (k := 61) rfl rfl (by kernel_rfl) (by kernel_rfl) (by kernel_rfl) (fun _ _ _ h => h) (Or.inl ⟨by rfl, fun z hz => by (obtain ⟨z0, z1, z2, z3⟩ := hz; go_simp)⟩) hHeld ?_
                 try simp only [Act.put, sia, sc0, scs]
                 refine takeD (i := 18) (v := undef) (k := 62) rfl rfl (by kernel_rfl) (by kernel_rfl) (by kernel_rfl) (fun _ _ _ h => h) (Or.inr ⟨by rfl, rfl⟩) hHeld ?_
                 try simp only [Act.put, sia, sc0, scs]
                 refine takeD (i := 19) (v := undef) (k := 63) rfl rfl (by kernel_rfl) (by kernel_rfl) (by kernel_rfl) (fun _ _ _ h => h) (Or.inr ⟨by rfl, rfl⟩) hHeld ?_
                 try simp only [Act.put, sia, sc0, scs]
                 refine takeD (i := 20) (v := undef) (k := 64) rfl rfl (by kernel_rfl) (by kernel_rfl) (by kernel_rfl) (fun _ _ _ h => h) (Or.inr ⟨by rfl, rfl⟩) hHeld ?_
                 try simp only [Act.put, sia, sc0, scs]
                 refine takeD (i := 21) (v := undef) (k := 65) rfl rfl (by kernel_rfl) (by kernel_rfl) (by kernel_rfl) (fun _ _ _ h => h) (Or.inr ⟨by rfl, rfl⟩) hHeld ?_
                 try simp only [Act.put, sia, sc0, scs]
                 refine takeD (i := 22) (v := undef) (k := 66) rfl rfl (by kernel_rfl) (by kernel_rfl) (by kernel_rfl) (fun _ _ _ h => h) (Or.inr ⟨by rfl, rfl⟩) hHeld ?_
                 try simp only [Act.put, sia, sc0, scs]
                 refine takeD (i := 23) (v := undef) (k := 67) rfl rfl (by kernel_rfl) (by kernel_rfl) (by kernel_rfl) (fun _ _ _ h => h) (Or.inr ⟨by rfl, rfl⟩) hHeld ?_
                 try simp only [Act.put, sia, sc0, scs]
                 refine takeD (i := 24) (v := undef) (k := 68) rfl rfl (by kernel_rfl) (by kernel_rfl) (by kernel_rfl) (fun _ _ _ h => h) (Or.inr ⟨by rfl, rfl⟩) hHeld ?_
                 try simp only [Act.put, sia, sc0, scs]
                 refine takeD (i := 25) (v := .bool true) (k := 69) rfl rfl (by kernel_rfl) (by kernel_rfl) (by kernel_rfl) (fun _ _ _ h => h) (Or.inl ⟨by rfl, fun z hz => by (obtain ⟨z0, z1, z2, z3⟩ := hz; go_simp)⟩) hHeld ?_
                 try simp only [Act.put, sia, sc0, scs]
                 refine takeD (i := 26) (v := .bool true) (k := 4) rfl rfl (by kernel_rfl) (by kernel_rfl) (by kernel_rfl) (fun _ _ _ h => h) (Or.inl ⟨by rfl, fun z hz => by (obtain ⟨z0, z1, z2, z3⟩ := hz; go_simp)⟩) hHeld ?_
                 try simp only [Act.put, sia, sc0, scs]
                 refine wpAnyH_done (by kernel_rfl) ?_ _
                 go_wp2_with fail
                 go_meet
                 case rel => exact ⟨by rw [HRES.out], (Below.refl _ _).drew⟩
          case rest =>
           obtain ⟨rfl, hbx⟩ := hcut
           have HBX := Lib.hid hbx; clear hbx
           go_wp2_with fail
           go_ret
           exact ⟨ret_bool (by unfold commO; simp [HFX.out, HFY.out, HXY.out, hid]), HB0.out.trans ((HB2.out.trans (HBX.out.mono HB2.out.size)).mono HB0.out.size)⟩
        | false =>
          -- ID
          go_upto_region 10 with fail
          cases hpx : placesK X.kind with
          | false =>
            go_wp2_with (first | (go_at_call 77; refine (places_any _ _).mono ?_; rintro e wz ⟨rfl, rfl⟩))
            go_ret
            exact ⟨ret_bool (by unfold commO; simp [HFX.out, HFY.out, HXY.out, hid, bne, hpx]), HB0.out.trans (HB2.out.mono HB0.out.size)⟩
          | true =>
            cases hpy : placesK Y.kind with
            | false =>
              go_wp2_with (first | (go_at_call 77; refine (places_any _ _).mono ?_; rintro e wz ⟨rfl, rfl⟩))
              go_ret
              exact ⟨ret_bool (by unfold commO; simp [HFX.out, HFY.out, HXY.out, hid, bne, hpx, hpy]), HB0.out.trans (HB2.out.mono HB0.out.size)⟩
            | true =>
              cases h1 : (Y.kind == 1) with
              | true =>
                cases ht : thereF X Y with
                | true =>
                  go_wp2_with (first | (go_at_call 77; refine (places_any _ _).mono ?_; rintro e wz ⟨rfl, rfl⟩))
                  go_ret
                  exact ⟨ret_bool (by unfold commO; simp [HFX.out, HFY.out, HXY.out, hid, bne, hpx, hpy, h1, ht]), HB0.out.trans (HB2.out.mono HB0.out.size)⟩
                | false =>
                  go_wp2_with (first | (go_at_call 77; refine (places_any _ _).mono ?_; rintro e wz ⟨rfl, rfl⟩))
                  refine (namesC_any X Y.id _).mono ?_
                  rintro e w3 ⟨rfl, hb3⟩
                  have hc3 := HB2.out.trans (hb3.mono HB2.out.size)
                  clear hc hf hk hb3
                  obtain ⟨hc, hf⟩ := bcell hc3
                  have hk := bblk hc3
                  have HB3 := Lib.hid hc3; clear hc3
                  cases hn3 : namesF X Y.id with
                  | true =>
                    go_wp2_with fail
                    go_ret
                    exact ⟨ret_bool (by unfold commO; simp [HFX.out, HFY.out, HXY.out, hid, bne, hpx, hpy, h1, ht, hn3]), HB0.out.trans (HB3.out.mono HB0.out.size)⟩
                  | false =>
                    go_wp2_with fail
                    refine (namesC_any Y X.id _).mono ?_
                    rintro e w4 ⟨rfl, hb4⟩
                    have hc4 := HB3.out.trans (hb4.mono HB3.out.size)
                    clear hc hf hk hb4
                    obtain ⟨hc, hf⟩ := bcell hc4
                    have hk := bblk hc4
                    have HB4 := Lib.hid hc4; clear hc4
                    cases hn4 : namesF Y X.id with
                    | true =>
                      go_wp2_with fail
                      go_ret
                      exact ⟨ret_bool (by unfold commO; simp [HFX.out, HFY.out, HXY.out, hid, bne, hpx, hpy, h1, ht, hn3, hn4]), HB0.out.trans (HB4.out.mono HB0.out.size)⟩
                    | false =>
                      go_wp2_with fail
                      go_ret
                      exact ⟨ret_bool (by unfold commO; simp [HFX.out, HFY.out, HXY.out, hid, bne, hpx, hpy, h1, ht, hn3, hn4]), HB0.out.trans (HB4.out.mono HB0.out.size)⟩
              | false =>
                cases h2 : (X.kind == 1) with
                | true =>
                  cases ht : thereF X Y with
                  | true =>
                    go_wp2_with (first | (go_at_call 77; refine (places_any _ _).mono ?_; rintro e wz ⟨rfl, rfl⟩))
                    go_ret
                    exact ⟨ret_bool (by unfold commO; simp [HFX.out, HFY.out, HXY.out, hid, bne, hpx, hpy, h1, h2, ht]), HB0.out.trans (HB2.out.mono HB0.out.size)⟩
                  | false =>
                    go_wp2_with (first | (go_at_call 77; refine (places_any _ _).mono ?_; rintro e wz ⟨rfl, rfl⟩))
                    refine (namesC_any Y X.id _).mono ?_
                    rintro e w3 ⟨rfl, hb3⟩
                    have hc3 := HB2.out.trans (hb3.mono HB2.out.size)
                    clear hc hf hk hb3
                    obtain ⟨hc, hf⟩ := bcell hc3
                    have hk := bblk hc3
                    have HB3 := Lib.hid hc3; clear hc3
                    cases hn3 : namesF Y X.id with
                    | true =>
                      go_wp2_with fail
                      go_ret
                      exact ⟨ret_bool (by unfold commO; simp [HFX.out, HFY.out, HXY.out, hid, bne, hpx, hpy, h1, h2, ht, hn3]), HB0.out.trans (HB3.out.mono HB0.out.size)⟩
                    | false =>
                      go_wp2_with fail
                      go_ret
                      exact ⟨ret_bool (by unfold commO; simp [HFX.out, HFY.out, HXY.out, hid, bne, hpx, hpy, h1, h2, ht, hn3]), HB0.out.trans (HB3.out.mono HB0.out.size)⟩
                | false =>
                  cases hp : (X.par == Y.par) with
                  | false =>
                    go_wp2_with (first | (go_at_call 77; refine (places_any _ _).mono ?_; rintro e wz ⟨rfl, rfl⟩))
                    go_ret
                    exact ⟨ret_bool (by unfold commO; simp [HFX.out, HFY.out, HXY.out, hid, bne, hpx, hpy, h1, h2, hp]), HB0.out.trans (HB2.out.mono HB0.out.size)⟩
                  | true =>
                    cases ht : thereF X Y with
                    | true =>
                      go_wp2_with (first | (go_at_call 77; refine (places_any _ _).mono ?_; rintro e wz ⟨rfl, rfl⟩))
                      go_ret
                      exact ⟨ret_bool (by unfold commO; simp [HFX.out, HFY.out, HXY.out, hid, bne, hpx, hpy, h1, h2, hp, ht]), HB0.out.trans (HB2.out.mono HB0.out.size)⟩
                    | false =>
                      cases ha : (X.aft == Y.id) with
                      | true =>
                        go_wp2_with (first | (go_at_call 77; refine (places_any _ _).mono ?_; rintro e wz ⟨rfl, rfl⟩))
                        go_ret
                        exact ⟨ret_bool (by unfold commO; simp [HFX.out, HFY.out, HXY.out, hid, bne, hpx, hpy, h1, h2, hp, ht, ha]), HB0.out.trans (HB2.out.mono HB0.out.size)⟩
                      | false =>
                        go_wp2_with (first | (go_at_call 77; refine (places_any _ _).mono ?_; rintro e wz ⟨rfl, rfl⟩))
                        go_ret
                        exact ⟨ret_bool (by unfold commO; simp [HFX.out, HFY.out, HXY.out, hid, bne, hpx, hpy, h1, h2, hp, ht, ha]), HB0.out.trans (HB2.out.mono HB0.out.size)⟩
end Go.Proofs.YtecnlfaholmpoaaGreat
