/- Two conditions compared: pandectref07.Same, pandectref10.SameStart. Small provisions and their names: plain words. Names put behind a row that the call owns. -/
import Derived.Test.YtbicmjmcdnkjhaaGreatDoorJSS1
import Derived.Test.YtbicmjmcdnkjhaaGreatDoorJSS6
import Derived.Test.YtbicmjmcdnkjhaaGreatDoorJSS8
import Derived.Laws.OwnMore
import Derived.Deep.RegionHeld3
set_option linter.unusedVariables false
set_option linter.unusedSimpArgs false
set_option maxRecDepth 20000
set_option maxHeartbeats 4000000
namespace Go.Proofs.YtbicmjmcdnkjhaaGreatDoor
open Go.RowKit
theorem sizeI_pos : ∀ t : TreeI, 1 ≤ t.size
 | .mk _ _ _ _ ks => by rw [TreeI.size]; omega
theorem kidsI_le : ∀ (ks : List TreeI), ks.length ≤ sizesI ks
 | [] => by rw [sizesI]; simp
 | t :: r => by
   have h1 := kidsI_le r
   have h2 := sizeI_pos t
   rw [sizesI, List.length_cons]
   omega
theorem memI_size : ∀ {ks : List TreeI} {k : Nat} {x : TreeI}, ks[k]? = some x → x.size ≤ sizesI ks
 | [], k, x, h => by simp at h
 | t :: r, 0, x, h => by
   simp at h
   subst h
   rw [sizesI]
   omega
 | t :: r, k + 1, x, h => by
   have := memI_size (ks := r) (k := k) (by simpa using h)
   rw [sizesI]
   omega
theorem plainSs_at : ∀ {ks : List TreeI} {k : Nat} {x : TreeI}, plainSs ks → ks[k]? = some x → plainS x
 | [], k, x, _, h => by simp at h
 | t :: r, 0, x, hp, h => by
   rw [plainSs] at hp
   simp at h
   subst h
   exact hp.1
 | t :: r, k + 1, x, hp, h => by
   rw [plainSs] at hp
   exact plainSs_at hp.2 (k := k) (by simpa using h)
theorem sameX_f : ∀ (N : Nat) (t u : TreeI) (cs1 cs2 : List Value) (w : World), t.size ≤ N → t.size ≤ 1000000 → RdX true w cs1 t → RdX true w cs2 u →
 Calls Tryz.prog 50 #[.agg cs1.toArray, .agg cs2.toArray] w fun e w' => e = .returned (.bool (eqX t u)) ∧ Below w.heap.size w w' := by
 intro N
 induction N with
 | zero =>
   intro t u cs1 cs2 w hN
   cases t
   simp [TreeI.size] at hN
 | succ N ih =>
   intro t u cs1 cs2 w hN hs hr1 hr2
   have IH := Hi ih
   obtain ⟨op, name, cm, m, ks⟩ := t
   obtain ⟨op2, name2, cm2, m2, us⟩ := u
   have HR1 := Hi hr1
   have HR2 := Hi hr2
   obtain ⟨A1, p1, rfl, -, hk1⟩ := hr1
   obtain ⟨A2, p2, rfl, -, hk2⟩ := hr2
   have HK1 := Hi hk1
   have HK2 := Hi hk2
   simp only [TreeI.size] at hN hs
   have hkl := kidsI_le ks
   simp only [tcX]
   clear ih hk1 hk2
   by_cases h0 : op = op2
   case neg =>
    have hd : (op != op2) = true := by simpa using h0
    have hres : eqX (.mk op name cm m ks) (.mk op2 name2 cm2 m2 us) = false := by
     rw [Bool.eq_false_iff]
     intro hh
     rw [eqX_iff] at hh
     injection hh
     contradiction
    rw [hres]
    clear hres HR1 HR2 HK1 HK2 IH
    go_enter Tryz.func50, Tryz.ntmps50
    go_wp2_with fail
    go_ret
    exact ⟨rfl, ((Below.refl _ _).alloc (lR _) _).alloc (by simp) _⟩
   subst h0
   by_cases h1 : name = name2
   case neg =>
    have hd : (name != name2) = true := by simpa using h1
    have hres : eqX (.mk op name cm m ks) (.mk op name2 cm2 m2 us) = false := by
     rw [Bool.eq_false_iff]
     intro hh
     rw [eqX_iff] at hh
     injection hh
     contradiction
    rw [hres]
    clear hres HR1 HR2 HK1 HK2 IH
    go_enter Tryz.func50, Tryz.ntmps50
    go_wp2_with fail
    go_ret
    exact ⟨rfl, ((Below.refl _ _).alloc (lR _) _).alloc (by simp) _⟩
   subst h1
   by_cases h2 : cm = cm2
   case neg =>
    have hd : (cm != cm2) = true := by simpa using h2
    have hres : eqX (.mk op name cm m ks) (.mk op name cm2 m2 us) = false := by
     rw [Bool.eq_false_iff]
     intro hh
     rw [eqX_iff] at hh
     injection hh
     contradiction
    rw [hres]
    clear hres HR1 HR2 HK1 HK2 IH
    go_enter Tryz.func50, Tryz.ntmps50
    go_wp2_with fail
    go_ret
    exact ⟨rfl, ((Below.refl _ _).alloc (lR _) _).alloc (by simp) _⟩
   subst h2
   by_cases h3 : m = m2
   case neg =>
    have hd : (m != m2) = true := by simpa using h3
    have hres : eqX (.mk op name cm m ks) (.mk op name cm m2 us) = false := by
     rw [Bool.eq_false_iff]
     intro hh
     rw [eqX_iff] at hh
     injection hh
     contradiction
    rw [hres]
    clear hres HR1 HR2 HK1 HK2 IH
    go_enter Tryz.func50, Tryz.ntmps50
    go_wp2_with fail
    go_ret
    exact ⟨rfl, ((Below.refl _ _).alloc (lR _) _).alloc (by simp) _⟩
   subst h3
   by_cases hl : ks.length = us.length
   case neg =>
    have hd : ((ks.length : Int) != (us.length : Int)) = true := by simp; omega
    have hres : eqX (.mk op name cm m ks) (.mk op name cm m us) = false := by
     rw [Bool.eq_false_iff]
     intro hh
     rw [eqX_iff] at hh
     injection hh with _ _ _ _ hh
     exact hl (by rw [hh])
    rw [hres]
    clear hres HR1 HR2 HK1 HK2 IH
    go_enter Tryz.func50, Tryz.ntmps50
    go_wp2_with fail
    go_ret
    exact ⟨rfl, ((Below.refl _ _).alloc (lR _) _).alloc (by simp) _⟩
   have hres : eqX (.mk op name cm m ks) (.mk op name cm m us) = eqXs ks us := by rw [eqX]; simp [hl]
   rw [hres]
   have HL := Hi hl
   have hdl : ((ks.length : Int) != (us.length : Int)) = false := by simp; omega
   clear hres hl
   go_enter Tryz.func50, Tryz.ntmps50
   go_wp2_with fail
   go_loopw [5] (fun v wr => ∃ k : Nat, k ≤ ks.length ∧ v = .int .i64 k ∧ eqXs ks us = eqXs (ks.drop k) (us.drop k) ∧ Below ((w.alloc (.cells #[.int .i64 op, vs name, .int .i64 cm, .int .i64 m, .slice A1 ks.length p1] 24)).alloc (.cells #[.int .i64 op, vs name, .int .i64 cm, .int .i64 m, .slice A2 us.length p2] 24)).heap.size ((w.alloc (.cells #[.int .i64 op, vs name, .int .i64 cm, .int .i64 m, .slice A1 ks.length p1] 24)).alloc (.cells #[.int .i64 op, vs name, .int .i64 cm, .int .i64 m, .slice A2 us.length p2] 24)) wr) (fun v _ => ks.length - (intOf v).toNat)
   case atStart => exact ⟨0, Nat.zero_le _, rfl, rfl, Below.refl _ _⟩
   case round =>
    obtain ⟨k, hk, rfl, heq, hb⟩ := hrel
    have HEQ := Hi heq
    have e1 : wr.heap[w.heap.size]? = some (.cells #[.int .i64 op, vs name, .int .i64 cm, .int .i64 m, .slice A1 ks.length p1] 24 (0, 0)) := (hb.block _ (by simp; omega)).trans (kept_at (new_at rfl))
    have e2 : wr.heap[w.heap.size + 1]? = some (.cells #[.int .i64 op, vs name, .int .i64 cm, .int .i64 m, .slice A2 us.length p2] 24 (0, 0)) := (hb.block _ (by simp)).trans (new_at (by simp))
    have c1 : wr.cell? ⟨w.heap.size, 4, none⟩ = some (.slice A1 ks.length p1) := cOb (o := 4) e1 rfl
    have c2 : wr.cell? ⟨w.heap.size + 1, 4, none⟩ = some (.slice A2 us.length p2) := cOb (o := 4) e2 rfl
    have l2 := lHp e2
    have l1 : w.heap.size < wr.heap.size := by omega
    have hbw : Below w.heap.size w wr := ((Below.refl _ _).alloc (lR _) _ |>.alloc (by simp) _).trans (hb.mono (by simp; omega))
    have HB := Hi hb
    have HBW := Hi hbw
    clear hb e1 e2 hbw heq
    by_cases hlt : k < ks.length
    · obtain ⟨x, hx⟩ := gLt hlt
      have hltu : k < us.length := by have := HL.out; omega
      obtain ⟨y, hy⟩ := gLt hltu
      have hxs := memI_size hx
      have hne : ks ≠ [] := by rintro rfl; simp at hlt
      have hnu : us ≠ [] := by rintro rfl; simp at hltu
      have hstep := eqXs_drop hx hy
      have HSTEP := Hi hstep
      clear hstep
      obtain ⟨b1, o1, rfl, hb1, hkd1⟩ := HK1.out.resolve_left hne
      obtain ⟨b2, o2, rfl, hb2, hkd2⟩ := HK2.out.resolve_left hnu
      obtain ⟨xs1, hc1, ht1⟩ := hkd1.get hx
      obtain ⟨xs2, hc2, ht2⟩ := hkd2.get hy
      have HT1 := Hi ht1
      have HT2 := Hi ht2
      obtain ⟨o0, n0, d0, m0, ks0⟩ := x
      obtain ⟨o9, n9, d9, m9, ks9⟩ := y
      obtain ⟨B1, q1, rfl, -, -⟩ := ht1
      obtain ⟨B2, q2, rfl, -, -⟩ := ht2
      have z10 : wr.cell? ⟨b1, o1 + k * 5, none⟩ = some (.int .i64 o0) := (HBW.out.cell (p := ⟨b1, o1 + k * 5, none⟩) hb1).trans (hc1 0 _ rfl)
      have z11 : wr.cell? ⟨b1, o1 + k * 5 + 1, none⟩ = some (vs n0) := (HBW.out.cell (p := ⟨b1, o1 + k * 5 + 1, none⟩) hb1).trans (hc1 1 _ rfl)
      have z12 : wr.cell? ⟨b1, o1 + k * 5 + 2, none⟩ = some (.int .i64 d0) := (HBW.out.cell (p := ⟨b1, o1 + k * 5 + 2, none⟩) hb1).trans (hc1 2 _ rfl)
      have z13 : wr.cell? ⟨b1, o1 + k * 5 + 3, none⟩ = some (.int .i64 m0) := (HBW.out.cell (p := ⟨b1, o1 + k * 5 + 3, none⟩) hb1).trans (hc1 3 _ rfl)
      have z14 : wr.cell? ⟨b1, o1 + k * 5 + 4, none⟩ = some (.slice B1 ks0.length q1) := (HBW.out.cell (p := ⟨b1, o1 + k * 5 + 4, none⟩) hb1).trans (hc1 4 _ rfl)
      have z20 : wr.cell? ⟨b2, o2 + k * 5, none⟩ = some (.int .i64 o9) := (HBW.out.cell (p := ⟨b2, o2 + k * 5, none⟩) hb2).trans (hc2 0 _ rfl)
      have z21 : wr.cell? ⟨b2, o2 + k * 5 + 1, none⟩ = some (vs n9) := (HBW.out.cell (p := ⟨b2, o2 + k * 5 + 1, none⟩) hb2).trans (hc2 1 _ rfl)
      have z22 : wr.cell? ⟨b2, o2 + k * 5 + 2, none⟩ = some (.int .i64 d9) := (HBW.out.cell (p := ⟨b2, o2 + k * 5 + 2, none⟩) hb2).trans (hc2 2 _ rfl)
      have z23 : wr.cell? ⟨b2, o2 + k * 5 + 3, none⟩ = some (.int .i64 m9) := (HBW.out.cell (p := ⟨b2, o2 + k * 5 + 3, none⟩) hb2).trans (hc2 3 _ rfl)
      have z24 : wr.cell? ⟨b2, o2 + k * 5 + 4, none⟩ = some (.slice B2 ks9.length q2) := (HBW.out.cell (p := ⟨b2, o2 + k * 5 + 4, none⟩) hb2).trans (hc2 4 _ rfl)
      have hb1' : b1 < wr.heap.size := by have := HBW.out.size; omega
      have hb2' : b2 < wr.heap.size := by have := HBW.out.size; omega
      have hk1 : (k : Int) < ks.length := by omega
      have hk2 : (k : Int) < us.length := by omega
      have hk0 : (0 : Int) ≤ k := by omega
      have HI : ∀ y, Hid (Calls Tryz.prog 50 #[.agg #[.int .i64 o0, vs n0, .int .i64 d0, .int .i64 m0, .slice B1 ks0.length q1], .agg #[.int .i64 o9, vs n9, .int .i64 d9, .int .i64 m9, .slice B2 ks9.length q2]] (World.grew wr y) fun e w' => e = .returned (.bool (eqX (.mk o0 n0 d0 m0 ks0) (.mk o9 n9 d9 m9 ks9))) ∧ Below (World.grew wr y).heap.size (World.grew wr y) w') := fun y => Hi (by
       have hb' : Below w.heap.size w (World.grew wr y) := HBW.out.trans ((gBl wr y).mono (by have := HBW.out.size; omega))
       exact IH.out (.mk o0 n0 d0 m0 ks0) (.mk o9 n9 d9 m9 ks9) _ _ _ (by omega) (by omega) (HT1.out.keep hb') (HT2.out.keep hb'))
      clear hc1 hc2 hkd1 hkd2 hx hy hxs hne hnu
      cases hv : eqX (.mk o0 n0 d0 m0 ks0) (.mk o9 n9 d9 m9 ks9) with
      | true =>
        rw [hv] at HSTEP
        simp only [hv] at HI
        clear hv
        go_wp2_with fail
        refine wp_region_grew (by kernel_rfl) (by as_aux_lemma => kernel_rfl) ?_
        repeat (go_big_quiet_step ((exact Calls_grew (HI _).out)))
        refine wpQuiet_nil ?_
        rintro _ ⟨y, rfl⟩
        go_wp2_with fail
        exact ⟨⟨k + 1, by omega, by go_num, by rw [HEQ.out, HSTEP.out, Bool.true_and], HB.out.trans ((gBl wr y).mono HB.out.size)⟩, by simp [intOf]; omega⟩
      | false =>
        rw [hv] at HSTEP
        simp only [hv] at HI
        clear hv
        go_wp2_with fail
        refine wp_region_grew (by kernel_rfl) (by as_aux_lemma => kernel_rfl) ?_
        repeat (go_big_quiet_step ((exact Calls_grew (HI _).out)))
        refine wpQuiet_nil ?_
        rintro _ ⟨y, rfl⟩
        go_wp2_with fail
        go_ret
        exact ⟨by rw [HEQ.out, HSTEP.out, Bool.false_and]; rfl, HBW.out.trans ((gBl wr y).mono HBW.out.size)⟩
    · have hk' : k = ks.length := by omega
      subst hk'
      have hlt2 : ¬ ((ks.length : Nat) : Int) < ks.length := by omega
      go_wp2_with fail
      go_ret
      exact ⟨by rw [HEQ.out, List.drop_length, eqXs]; rfl, HBW.out⟩
theorem sameX_s : ∀ (N : Nat) (t u : TreeI) (cs1 cs2 : List Value) (w : World), t.size ≤ N → t.size ≤ 1000000 → plainS t → plainS u → RdX false w cs1 t → RdX false w cs2 u →
 Calls Tryz.prog 51 #[.agg cs1.toArray, .agg cs2.toArray] w fun e w' => e = .returned (.bool (eqX t u)) ∧ Below w.heap.size w w' := by
 intro N
 induction N with
 | zero =>
   intro t u cs1 cs2 w hN
   cases t
   simp [TreeI.size] at hN
 | succ N ih =>
   intro t u cs1 cs2 w hN hs hp1 hp2 hr1 hr2
   have IH := Hi ih
   obtain ⟨op, name, cm, m, ks⟩ := t
   obtain ⟨op2, name2, cm2, m2, us⟩ := u
   have HR1 := Hi hr1
   have HR2 := Hi hr2
   obtain ⟨A1, p1, rfl, -, hk1⟩ := hr1
   obtain ⟨A2, p2, rfl, -, hk2⟩ := hr2
   obtain ⟨rfl, hps⟩ := hp1
   obtain ⟨rfl, hpu⟩ := hp2
   have HPS := Hi hps
   have HPU := Hi hpu
   clear hps hpu
   have HK1 := Hi hk1
   have HK2 := Hi hk2
   simp only [TreeI.size] at hN hs
   have hkl := kidsI_le ks
   simp only [tcX]
   clear ih hk1 hk2
   by_cases h0 : op = op2
   case neg =>
    have hd : (op != op2) = true := by simpa using h0
    have hres : eqX (.mk op name 0 m ks) (.mk op2 name2 0 m2 us) = false := by
     rw [Bool.eq_false_iff]
     intro hh
     rw [eqX_iff] at hh
     injection hh
     contradiction
    rw [hres]
    clear hres HR1 HR2 HK1 HK2 IH HPS HPU
    go_enter Tryz.func51, Tryz.ntmps51
    go_wp2_with fail
    go_ret
    exact ⟨rfl, ((Below.refl _ _).alloc (lR _) _).alloc (by simp) _⟩
   subst h0
   by_cases h1 : name = name2
   case neg =>
    have hd : (name != name2) = true := by simpa using h1
    have hres : eqX (.mk op name 0 m ks) (.mk op name2 0 m2 us) = false := by
     rw [Bool.eq_false_iff]
     intro hh
     rw [eqX_iff] at hh
     injection hh
     contradiction
    rw [hres]
    clear hres HR1 HR2 HK1 HK2 IH HPS HPU
    go_enter Tryz.func51, Tryz.ntmps51
    go_wp2_with fail
    go_ret
    exact ⟨rfl, ((Below.refl _ _).alloc (lR _) _).alloc (by simp) _⟩
   subst h1
   by_cases h2 : m = m2
   case neg =>
    have hd : (m != m2) = true := by simpa using h2
    have hres : eqX (.mk op name 0 m ks) (.mk op name 0 m2 us) = false := by
     rw [Bool.eq_false_iff]
     intro hh
     rw [eqX_iff] at hh
     injection hh
     contradiction
    rw [hres]
    clear hres HR1 HR2 HK1 HK2 IH HPS HPU
    go_enter Tryz.func51, Tryz.ntmps51
    go_wp2_with fail
    go_ret
    exact ⟨rfl, ((Below.refl _ _).alloc (lR _) _).alloc (by simp) _⟩
   subst h2
   by_cases hl : ks.length = us.length
   case neg =>
    have hd : ((ks.length : Int) != (us.length : Int)) = true := by simp; omega
    have hres : eqX (.mk op name 0 m ks) (.mk op name 0 m us) = false := by
     rw [Bool.eq_false_iff]
     intro hh
     rw [eqX_iff] at hh
     injection hh with _ _ _ _ hh
     exact hl (by rw [hh])
    rw [hres]
    clear hres HR1 HR2 HK1 HK2 IH HPS HPU
    go_enter Tryz.func51, Tryz.ntmps51
    go_wp2_with fail
    go_ret
    exact ⟨rfl, ((Below.refl _ _).alloc (lR _) _).alloc (by simp) _⟩
   have hres : eqX (.mk op name 0 m ks) (.mk op name 0 m us) = eqXs ks us := by rw [eqX]; simp [hl]
   rw [hres]
   have HL := Hi hl
   have hdl : ((ks.length : Int) != (us.length : Int)) = false := by simp; omega
   clear hres hl
   go_enter Tryz.func51, Tryz.ntmps51
   go_wp2_with fail
   go_loopw [5] (fun v wr => ∃ k : Nat, k ≤ ks.length ∧ v = .int .i64 k ∧ eqXs ks us = eqXs (ks.drop k) (us.drop k) ∧ Below ((w.alloc (.cells #[.int .i64 op, vs name, .int .i64 m, .slice A1 ks.length p1] 28)).alloc (.cells #[.int .i64 op, vs name, .int .i64 m, .slice A2 us.length p2] 28)).heap.size ((w.alloc (.cells #[.int .i64 op, vs name, .int .i64 m, .slice A1 ks.length p1] 28)).alloc (.cells #[.int .i64 op, vs name, .int .i64 m, .slice A2 us.length p2] 28)) wr) (fun v _ => ks.length - (intOf v).toNat)
   case atStart => exact ⟨0, Nat.zero_le _, rfl, rfl, Below.refl _ _⟩
   case round =>
    obtain ⟨k, hk, rfl, heq, hb⟩ := hrel
    have HEQ := Hi heq
    have e1 : wr.heap[w.heap.size]? = some (.cells #[.int .i64 op, vs name, .int .i64 m, .slice A1 ks.length p1] 28 (0, 0)) := (hb.block _ (by simp; omega)).trans (kept_at (new_at rfl))
    have e2 : wr.heap[w.heap.size + 1]? = some (.cells #[.int .i64 op, vs name, .int .i64 m, .slice A2 us.length p2] 28 (0, 0)) := (hb.block _ (by simp)).trans (new_at (by simp))
    have c1 : wr.cell? ⟨w.heap.size, 3, none⟩ = some (.slice A1 ks.length p1) := cOb (o := 3) e1 rfl
    have c2 : wr.cell? ⟨w.heap.size + 1, 3, none⟩ = some (.slice A2 us.length p2) := cOb (o := 3) e2 rfl
    have l2 := lHp e2
    have l1 : w.heap.size < wr.heap.size := by omega
    have hbw : Below w.heap.size w wr := ((Below.refl _ _).alloc (lR _) _ |>.alloc (by simp) _).trans (hb.mono (by simp; omega))
    have HB := Hi hb
    have HBW := Hi hbw
    clear hb e1 e2 hbw heq
    by_cases hlt : k < ks.length
    · obtain ⟨x, hx⟩ := gLt hlt
      have hltu : k < us.length := by have := HL.out; omega
      obtain ⟨y, hy⟩ := gLt hltu
      have hxs := memI_size hx
      have hne : ks ≠ [] := by rintro rfl; simp at hlt
      have hnu : us ≠ [] := by rintro rfl; simp at hltu
      have hstep := eqXs_drop hx hy
      have HSTEP := Hi hstep
      clear hstep
      have HPX := Hi (plainSs_at HPS.out hx)
      have HPY := Hi (plainSs_at HPU.out hy)
      obtain ⟨b1, o1, rfl, hb1, hkd1⟩ := HK1.out.resolve_left hne
      obtain ⟨b2, o2, rfl, hb2, hkd2⟩ := HK2.out.resolve_left hnu
      obtain ⟨xs1, hc1, ht1⟩ := hkd1.get hx
      obtain ⟨xs2, hc2, ht2⟩ := hkd2.get hy
      have HT1 := Hi ht1
      have HT2 := Hi ht2
      obtain ⟨o0, n0, d0, m0, ks0⟩ := x
      obtain ⟨o9, n9, d9, m9, ks9⟩ := y
      obtain ⟨B1, q1, rfl, -, -⟩ := ht1
      obtain ⟨B2, q2, rfl, -, -⟩ := ht2
      have z10 : wr.cell? ⟨b1, o1 + k * 4, none⟩ = some (.int .i64 o0) := (HBW.out.cell (p := ⟨b1, o1 + k * 4, none⟩) hb1).trans (hc1 0 _ rfl)
      have z11 : wr.cell? ⟨b1, o1 + k * 4 + 1, none⟩ = some (vs n0) := (HBW.out.cell (p := ⟨b1, o1 + k * 4 + 1, none⟩) hb1).trans (hc1 1 _ rfl)
      have z12 : wr.cell? ⟨b1, o1 + k * 4 + 2, none⟩ = some (.int .i64 m0) := (HBW.out.cell (p := ⟨b1, o1 + k * 4 + 2, none⟩) hb1).trans (hc1 2 _ rfl)
      have z13 : wr.cell? ⟨b1, o1 + k * 4 + 3, none⟩ = some (.slice B1 ks0.length q1) := (HBW.out.cell (p := ⟨b1, o1 + k * 4 + 3, none⟩) hb1).trans (hc1 3 _ rfl)
      have z20 : wr.cell? ⟨b2, o2 + k * 4, none⟩ = some (.int .i64 o9) := (HBW.out.cell (p := ⟨b2, o2 + k * 4, none⟩) hb2).trans (hc2 0 _ rfl)
      have z21 : wr.cell? ⟨b2, o2 + k * 4 + 1, none⟩ = some (vs n9) := (HBW.out.cell (p := ⟨b2, o2 + k * 4 + 1, none⟩) hb2).trans (hc2 1 _ rfl)
      have z22 : wr.cell? ⟨b2, o2 + k * 4 + 2, none⟩ = some (.int .i64 m9) := (HBW.out.cell (p := ⟨b2, o2 + k * 4 + 2, none⟩) hb2).trans (hc2 2 _ rfl)
      have z23 : wr.cell? ⟨b2, o2 + k * 4 + 3, none⟩ = some (.slice B2 ks9.length q2) := (HBW.out.cell (p := ⟨b2, o2 + k * 4 + 3, none⟩) hb2).trans (hc2 3 _ rfl)
      have hb1' : b1 < wr.heap.size := by have := HBW.out.size; omega
      have hb2' : b2 < wr.heap.size := by have := HBW.out.size; omega
      have hk1 : (k : Int) < ks.length := by omega
      have hk2 : (k : Int) < us.length := by omega
      have hk0 : (0 : Int) ≤ k := by omega
      have HI : ∀ y, Hid (Calls Tryz.prog 51 #[.agg #[.int .i64 o0, vs n0, .int .i64 m0, .slice B1 ks0.length q1], .agg #[.int .i64 o9, vs n9, .int .i64 m9, .slice B2 ks9.length q2]] (World.grew wr y) fun e w' => e = .returned (.bool (eqX (.mk o0 n0 d0 m0 ks0) (.mk o9 n9 d9 m9 ks9))) ∧ Below (World.grew wr y).heap.size (World.grew wr y) w') := fun y => Hi (by
       have hb' : Below w.heap.size w (World.grew wr y) := HBW.out.trans ((gBl wr y).mono (by have := HBW.out.size; omega))
       exact IH.out (.mk o0 n0 d0 m0 ks0) (.mk o9 n9 d9 m9 ks9) _ _ _ (by omega) (by omega) HPX.out HPY.out (HT1.out.keep hb') (HT2.out.keep hb'))
      clear hc1 hc2 hkd1 hkd2 hx hy hxs hne hnu
      cases hv : eqX (.mk o0 n0 d0 m0 ks0) (.mk o9 n9 d9 m9 ks9) with
      | true =>
        rw [hv] at HSTEP
        simp only [hv] at HI
        clear hv
        go_wp2_with fail
        refine wp_region_grew (by kernel_rfl) (by as_aux_lemma => kernel_rfl) ?_
        repeat (go_big_quiet_step ((exact Calls_grew (HI _).out)))
        refine wpQuiet_nil ?_
        rintro _ ⟨y, rfl⟩
        go_wp2_with fail
        exact ⟨⟨k + 1, by omega, by go_num, by rw [HEQ.out, HSTEP.out, Bool.true_and], HB.out.trans ((gBl wr y).mono HB.out.size)⟩, by simp [intOf]; omega⟩
      | false =>
        rw [hv] at HSTEP
        simp only [hv] at HI
        clear hv
        go_wp2_with fail
        refine wp_region_grew (by kernel_rfl) (by as_aux_lemma => kernel_rfl) ?_
        repeat (go_big_quiet_step ((exact Calls_grew (HI _).out)))
        refine wpQuiet_nil ?_
        rintro _ ⟨y, rfl⟩
        go_wp2_with fail
        go_ret
        exact ⟨by rw [HEQ.out, HSTEP.out, Bool.false_and]; rfl, HBW.out.trans ((gBl wr y).mono HBW.out.size)⟩
    · have hk' : k = ks.length := by omega
      subst hk'
      have hlt2 : ¬ ((ks.length : Nat) : Int) < ks.length := by omega
      go_wp2_with fail
      go_ret
      exact ⟨by rw [HEQ.out, List.drop_length, eqXs]; rfl, HBW.out⟩
end Go.Proofs.YtbicmjmcdnkjhaaGreatDoor
namespace Go.Proofs.YtbicmjmcdnkjhaaGreatDoor
mutual
def nmF : TreeI → List Bytes
 | .mk op name _ _ ks => (if op = 3 ∨ op = 4 then [name] else []) ++ nmFs ks
def nmFs : List TreeI → List Bytes
 | [] => []
 | k :: r => nmF k ++ nmFs r
end
mutual
def nmS : TreeI → List Bytes
 | .mk op name _ _ ks => (if 4 ≤ op ∧ op ≤ 7 then [name] else []) ++ nmSs ks
def nmSs : List TreeI → List Bytes
 | [] => []
 | k :: r => nmS k ++ nmSs r
end
mutual
theorem nmF_up : ∀ t : Tree, nmF (up t) = namesF t
 | .mk op name c n ks => by
   rw [up, nmF, namesF, nmFs_up ks]
   by_cases h : op = 3 ∨ op = 4
   · rw [if_pos h, if_pos (by omega)]
   · rw [if_neg h, if_neg (by omega)]
theorem nmFs_up : ∀ ks : List Tree, nmFs (ups ks) = namesFs ks
 | [] => by rw [ups, nmFs, namesFs]
 | k :: r => by rw [ups, nmFs, namesFs, nmF_up k, nmFs_up r]
end
mutual
theorem nmS_up : ∀ t : Tree, nmS (up t) = namesS t
 | .mk op name c n ks => by
   rw [up, nmS, namesS, nmSs_up ks]
   by_cases h : op = 4 ∨ op = 5 ∨ op = 6 ∨ op = 7
   · rw [if_pos h, if_pos (by omega)]
   · rw [if_neg h, if_neg (by omega)]
theorem nmSs_up : ∀ ks : List Tree, nmSs (ups ks) = namesSs ks
 | [] => by rw [ups, nmSs, namesSs]
 | k :: r => by rw [ups, nmSs, namesSs, nmS_up k, nmSs_up r]
end
mutual
theorem nmF_len : ∀ t : TreeI, (nmF t).length ≤ t.size
 | .mk op name c n ks => by
   have := nmFs_len ks
   rw [nmF, TreeI.size, List.length_append]
   split <;> simp <;> omega
theorem nmFs_len : ∀ ks : List TreeI, (nmFs ks).length ≤ sizesI ks
 | [] => by rw [nmFs, sizesI]; simp
 | k :: r => by
   have := nmF_len k
   have := nmFs_len r
   rw [nmFs, sizesI, List.length_append]
   omega
end
mutual
theorem nmS_len : ∀ t : TreeI, (nmS t).length ≤ t.size
 | .mk op name c n ks => by
   have := nmSs_len ks
   rw [nmS, TreeI.size, List.length_append]
   split <;> simp <;> omega
theorem nmSs_len : ∀ ks : List TreeI, (nmSs ks).length ≤ sizesI ks
 | [] => by rw [nmSs, sizesI]; simp
 | k :: r => by
   have := nmS_len k
   have := nmSs_len r
   rw [nmSs, sizesI, List.length_append]
   omega
end
def namesI (p : ProvI) : List Bytes := p.id :: p.name :: (p.exc ++ (nmF p.cond ++ (nmS p.beg ++ (nmS p.fin ++ nmS p.aga))))
theorem namesI_up (p : Prov) : namesI (upP p) = namesP p := by
 unfold namesI namesP upP
 simp only [nmF_up, nmS_up]
def fewI (p : ProvI) : Bool := decide (cntI p.cond 300 ≤ 300) && decide (cntI p.beg 300 ≤ 300) && decide (cntI p.fin 300 ≤ 300) && decide (cntI p.aga 300 ≤ 300) && decide (p.exc.length ≤ 30) && (namesI p).all fun s => decide (s.length ≤ 60)
structure FewP (p : ProvI) : Prop where
 cond : p.cond.size ≤ 300
 beg : p.beg.size ≤ 300
 fin : p.fin.size ≤ 300
 aga : p.aga.size ≤ 300
 exc : p.exc.length ≤ 30
 names : ∀ s ∈ namesI p, s.length ≤ 60
theorem fewI_iff {p : ProvI} : fewI p = true ↔ FewP p := by
 unfold fewI
 simp only [Bool.and_eq_true, decide_eq_true_eq, List.all_eq_true, cnt_le]
 constructor
 · rintro ⟨⟨⟨⟨⟨h1, h2⟩, h3⟩, h4⟩, h5⟩, h6⟩
   exact ⟨by omega, by omega, by omega, by omega, h5, h6⟩
 · intro h
   have := h.cond
   have := h.beg
   have := h.fin
   have := h.aga
   exact ⟨⟨⟨⟨⟨by omega, by omega⟩, by omega⟩, by omega⟩, h.exc⟩, h.names⟩
/- names in conditions are short, too -/
open Go.RowKit
theorem loadCells_zero (a : Addr) (w : World) : (loadCells a 0).run Tryz.prog w = .ok #[] w := rfl
theorem run_append_zero (w : World) (base : Nat) (t ty e : TypeId) (i : TypeInfo) (size : Nat) (ht : Tryz.prog.underlying t = some (.slice e)) (hi : Tryz.prog.info? e = some i) (v : Value) (n : Nat) (xs : List Value) (hown : w.ownsRow base e size v n xs) (A : Option Addr) (c : Nat) :
 (Builtin.append_ #[t, t] ty #[v, .slice A 0 c]).run Tryz.prog w = .ok v w := by
 cases A with
 | none =>
   rcases hown.2 with ⟨rfl, rfl⟩ | ⟨g, cap, cur, rfl, _, _, hnc, _⟩
   · simp [Builtin.append_, run_underlying ht, sizeOf, typeInfo, hi, Builtin.lenOf, Builtin.firstCells]
   · simp [Builtin.append_, run_underlying ht, sizeOf, typeInfo, hi, Builtin.lenOf, Builtin.firstCells, hnc, storeCells]
 | some a =>
   rcases hown.2 with ⟨rfl, rfl⟩ | ⟨g, cap, cur, rfl, _, _, hnc, _⟩
   · simp [Builtin.append_, run_underlying ht, sizeOf, typeInfo, hi, Builtin.lenOf, Builtin.firstCells, loadCells_zero]
   · simp [Builtin.append_, run_underlying ht, sizeOf, typeInfo, hi, Builtin.lenOf, Builtin.firstCells, hnc, storeCells, loadCells_zero]
theorem wpList_append_src {ops : Array Oper} {rest : List Oper} {o : Oper} {a : Act} {w : World} {Q : Exit → Act → World → Prop} (hgd : o.guard = none) (s x : Operand) (hop : o.op = Op.call { callee := Callee.builtin Builtin.append, args := #[s, x], argTypes := #[25, 25] })
 (base : Nat) (v : Value) (l X : List Bytes) (A : Option Addr) (c : Nat) (hs : a.eval s = v) (hx : a.eval x = .slice A X.length c) (hown : OwnS w base v l) (hr : RdS w A X)
 (hlen : l.length + X.length ≤ 1000000) (hb : base ≤ w.heap.size) (h : ∀ v' w', OwnS w' base v' (l ++ X) → w.grownBy w' v.ownBlock → (v'.ownBlock = v.ownBlock ∨ v'.ownBlock = some w.heap.size) → wpList Tryz.prog ops Q rest (a.put o.dst v') w') : wpList Tryz.prog ops Q (o :: rest) a w := by
 obtain ⟨i0, hi0, hz0, hz1, hz2⟩ := info_parts info_str
 by_cases hX : X = []
 · subst hX
   refine wpList_plain hgd fun K hK => ?_
   have hrun := run_append_zero w base 25 o.type 9 i0 1 Tryz.underlying25 hi0 v _ _ hown A c
   unfold Oper.wp
   simp [execOp, hop, resolve, invoke, builtin, hs, hx, hrun, Result.andThen]
   exact hK _ _ (h v w (by rw [List.append_nil]; exact hown) ⟨rfl, rfl, rfl, lR _, fun _ _ _ => rfl⟩ (Or.inl rfl))
 · obtain ⟨b0, o0, rfl, hb0, hc⟩ := hr hX
   refine wpList_append_own_at _ hgd s x _ hop base 9 i0 (.string ⟨#[]⟩) 1 16 Tryz.underlying25 hi0 hz0 hz1 hz2 rfl (by decide) v l.length (l.map vs) hs hown ⟨b0, o0, none⟩ X.length c (X.map vs) hx (by simp) (fun j u hu => ?_) (fun u hu => ?_) (by unfold maxLen; omega) (by omega) hb ?_
   · rw [List.getElem?_map] at hu
     cases hj : X[j]? with
     | none => rw [hj] at hu; cases hu
     | some x =>
       rw [hj] at hu
       cases hu
       rw [Addr.add_lit]
       have := hc j x hj 0 _ rfl
       simpa using this
   · rw [List.mem_map] at hu
     obtain ⟨x, -, rfl⟩ := hu
     rfl
   · intro v' w' ho hg _ hb
     exact h v' w' (by unfold OwnS; simpa using ho) hg hb
/- a row handed on: what has become of it, and of the memory -/
structure NmOut (W w w' : World) (v v' : Value) (l : List Bytes) : Prop where
 own : OwnS w' W.heap.size v' l
 gr : w.grownBy w' v.ownBlock
 at' : v'.ownBlock = v.ownBlock ∨ ∃ b, v'.ownBlock = some b ∧ w.heap.size ≤ b
section
variable {W w w1 w2 : World} {v v1 v2 : Value} {l l1 l2 : List Bytes}
theorem NmOut.refl (h : OwnS w W.heap.size v l) : NmOut W w w v v l := ⟨h, ⟨rfl, rfl, rfl, lR _, fun _ _ _ => rfl⟩, Or.inl rfl⟩
theorem NmOut.trans (h : NmOut W w w1 v v1 l1) (k : NmOut W w1 w2 v1 v2 l2) : NmOut W w w2 v v2 l2 := by
 refine ⟨k.own, ⟨k.gr.os.trans h.gr.os, k.gr.tape.trans h.gr.tape, k.gr.output.trans h.gr.output, Nat.le_trans h.gr.size k.gr.size, fun i hi hne => ?_⟩, ?_⟩
 · refine (k.gr.block i (Nat.lt_of_lt_of_le hi h.gr.size) (fun e => ?_)).trans (h.gr.block i hi hne)
   rcases h.at' with h' | ⟨b, h', hb⟩
   · exact hne (e.trans h')
   · rw [h'] at e
     injection e with e
     omega
 · rcases k.at' with k' | ⟨b, k', hb⟩
   · rcases h.at' with h' | ⟨b, h', hb⟩
     · exact Or.inl (k'.trans h')
     · exact Or.inr ⟨b, k'.trans h', hb⟩
   · exact Or.inr ⟨b, k', Nat.le_trans h.gr.size hb⟩
theorem NmOut.below (h : NmOut W w w1 v v1 l1) (hv : OwnS w W.heap.size v l) (hb : Below W.heap.size W w) : Below W.heap.size W w1 :=
 hb.trans ⟨h.gr.os, h.gr.tape, h.gr.output, h.gr.size, fun i hi => h.gr.block i (Nat.lt_of_lt_of_le hi hb.size) (fun e => by have := (hv.own i e.symm).1; omega)⟩
theorem OwnS.grown {base : Nat} (h : OwnS w base v l) (hb : Below w.heap.size w w1) : OwnS w1 base v l := h.keep (fun b _ hlt => hb.block b hlt)
/- from a world with new blocks -/
theorem NmOut.of_new (hb : Below w.heap.size w w1) (h : NmOut W w1 w2 v v1 l1) : NmOut W w w2 v v1 l1 :=
 ⟨h.own, ⟨h.gr.os.trans hb.os, h.gr.tape.trans hb.tape, h.gr.output.trans hb.output, Nat.le_trans hb.size h.gr.size, fun i hi hne => (h.gr.block i (Nat.lt_of_lt_of_le hi hb.size) hne).trans (hb.block i hi)⟩,
   h.at'.imp id (fun ⟨b, e, hh⟩ => ⟨b, e, Nat.le_trans hb.size hh⟩)⟩
theorem NmOut.blk (h : NmOut W w w1 v v1 l1) {b : Nat} {O : Obj} (hb : w.heap[b]? = some O) (hne : v.ownBlock ≠ some b) : w1.heap[b]? = some O := (h.gr.block b (lHp hb) (fun e => hne e.symm)).trans hb
end
theorem nmFs_snoc {ks : List TreeI} {k : Nat} {t : TreeI} (h : ks[k]? = some t) : nmFs (ks.take (k + 1)) = nmFs (ks.take k) ++ nmF t := by
 induction ks generalizing k with
 | nil => simp at h
 | cons a r ih =>
   cases k with
   | zero => simp at h; subst h; simp [nmFs]
   | succ k =>
     rw [List.take_succ_cons, List.take_succ_cons, nmFs, nmFs, ih (by simpa using h), List.append_assoc]
theorem nmSs_snoc {ks : List TreeI} {k : Nat} {t : TreeI} (h : ks[k]? = some t) : nmSs (ks.take (k + 1)) = nmSs (ks.take k) ++ nmS t := by
 induction ks generalizing k with
 | nil => simp at h
 | cons a r ih =>
   cases k with
   | zero => simp at h; subst h; simp [nmSs]
   | succ k =>
     rw [List.take_succ_cons, List.take_succ_cons, nmSs, nmSs, ih (by simpa using h), List.append_assoc]
theorem sizesI_snoc {ks : List TreeI} {k : Nat} {t : TreeI} (h : ks[k]? = some t) : sizesI (ks.take k) + t.size ≤ sizesI ks := by
 induction ks generalizing k with
 | nil => simp at h
 | cons a r ih =>
   cases k with
   | zero => simp at h; subst h; simp [sizesI]
   | succ k =>
     have := ih (k := k) (by simpa using h)
     rw [List.take_succ_cons, sizesI, sizesI]
     omega
end Go.Proofs.YtbicmjmcdnkjhaaGreatDoor
