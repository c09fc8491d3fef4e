/- Nodes counted: pandectref07.count, pandectref10.Nodes. pandectref07.Small. pandectref07.Names: two lists of names compared. pandectref10.Same: two provisions compared. The example of the printer's statements: what it is written as. -/
import Derived.Test.YtbicmjmcdnkjhaaGreatDoorJP14
import Derived.Test.YtbicmjmcdnkjhaaGreatDoorJP1
set_option linter.unusedVariables false
set_option linter.unusedSimpArgs false
namespace Go.Proofs.YtbicmjmcdnkjhaaGreatDoor
open Go.RowKit
set_option maxRecDepth 20000 in
set_option maxHeartbeats 4000000 in
theorem count_f : ∀ (N : Nat) (t : TreeI) (cs : List Value) (M : Int) (w : World), t.size ≤ N → 0 ≤ M → M ≤ 1000000 → RdX true w cs t →
    Calls Tryz.prog 57 #[.agg cs.toArray, .int .i64 M] w fun e w' => e = .returned (.int .i64 (cntI t M)) ∧ Below w.heap.size w w' := by
  intro N
  induction N with
  | zero =>
    intro t cs M w hN
    have := sizeI_pos t
    omega
  | succ N ih =>
    intro t cs M w hN hM0 hM hr1
    have IH := Lib.hid ih
    obtain ⟨op, name, cm, m, ks⟩ := t
    obtain ⟨A1, p1, rfl, -, hk1⟩ := hr1
    have HK1 := Lib.hid hk1
    simp only [TreeI.size] at hN
    simp only [tcX]
    rw [cntI]
    clear ih hk1
    go_enter Tryz.func57, Tryz.ntmps57
    go_wp2_with fail
    go_loopw [5, 6] (fun v5 v6 wr => ∃ (k : Nat) (n : Int), k ≤ ks.length ∧ v6 = .int .i64 k ∧ v5 = .int .i64 n ∧ cntsI ks 1 M = cntsI (ks.drop k) n M ∧ (k : Int) + 1 ≤ n ∧ n ≤ M + 1 ∧ Below (w.alloc (.cells #[.int .i64 op, vs name, .int .i64 cm, .int .i64 m, .slice A1 ks.length p1] 24)).heap.size (w.alloc (.cells #[.int .i64 op, vs name, .int .i64 cm, .int .i64 m, .slice A1 ks.length p1] 24)) wr) (fun _ v6 _ => ks.length - (intOf v6).toNat)
    case atStart => exact ⟨0, 1, Nat.zero_le _, rfl, rfl, rfl, by omega, by omega, Below.refl _ _⟩
    case round =>
      obtain ⟨k, n, hk, rfl, rfl, heq, hn1, hn2, hb⟩ := hrel
      have HEQ := Lib.hid heq
      have e1 : wr.heap[w.heap.size]? = some (.cells #[.int .i64 op, vs name, .int .i64 cm, .int .i64 m, .slice A1 ks.length p1] 24 (0, 0)) := (hb.block _ (by simp)).trans (new_at rfl)
      have c1 : wr.cell? ⟨w.heap.size, 4, none⟩ = some (.slice A1 ks.length p1) := cell_of_blk (o := 4) e1 rfl
      have l1 := lt_of_heap' e1
      have hbw : Below w.heap.size w wr := ((Below.refl _ _).alloc (Nat.le_refl _) _).trans (hb.mono (by simp))
      have HB := Lib.hid hb
      have HBW := Lib.hid hbw
      clear hb e1 hbw heq
      by_cases hlt : k < ks.length
      · obtain ⟨x, hx⟩ := get_of_lt hlt
        have hk1 : (k : Int) < ks.length := by omega
        have hk0 : (0 : Int) ≤ k := by omega
        have hstep : ks.drop k = x :: ks.drop (k + 1) := by
          obtain ⟨h1, rfl⟩ := List.getElem?_eq_some_iff.1 hx
          exact List.drop_eq_getElem_cons h1
        by_cases hnm : n ≤ M
        · have hs2 : cntsI ks 1 M = cntsI (ks.drop (k + 1)) (n + cntI x (M - n)) M := by
            rw [HEQ.out, hstep, cntsI, if_pos hnm]
          have HS2 := Lib.hid hs2
          clear hs2 hstep
          have hxs := memI_size hx
          have hne : ks ≠ [] := by rintro rfl; simp at hlt
          obtain ⟨b1, o1, rfl, hb1, hkd1⟩ := HK1.out.resolve_left hne
          obtain ⟨xs1, hc1, ht1⟩ := hkd1.get hx
          have HT1 := Lib.hid ht1
          obtain ⟨q1', q2', q3', -⟩ := cnt_spec x (M - n)
          have q2 : cntI x (M - n) ≤ M - n + 1 := by omega
          have hc0 : ∃ c, cntI x (M - n) = c := ⟨_, rfl⟩
          obtain ⟨c, hc⟩ := hc0
          rw [hc] at q1' q2
          have HC := Lib.hid hc
          clear q2' q3' hc
          obtain ⟨o0, n0, d0, m0, ks0⟩ := x
          obtain ⟨B1, q1, rfl, -, -⟩ := ht1
          have z10 : wr.cell? ⟨b1, o1 + k * 5, none⟩ = some (.int .i64 o0) := (HBW.out.cell (p := ⟨b1, o1 + k * 5, none⟩) hb1).trans (hc1 0 _ rfl)
          have z11 : wr.cell? ⟨b1, o1 + k * 5 + 1, none⟩ = some (vs n0) := (HBW.out.cell (p := ⟨b1, o1 + k * 5 + 1, none⟩) hb1).trans (hc1 1 _ rfl)
          have z12 : wr.cell? ⟨b1, o1 + k * 5 + 2, none⟩ = some (.int .i64 d0) := (HBW.out.cell (p := ⟨b1, o1 + k * 5 + 2, none⟩) hb1).trans (hc1 2 _ rfl)
          have z13 : wr.cell? ⟨b1, o1 + k * 5 + 3, none⟩ = some (.int .i64 m0) := (HBW.out.cell (p := ⟨b1, o1 + k * 5 + 3, none⟩) hb1).trans (hc1 3 _ rfl)
          have z14 : wr.cell? ⟨b1, o1 + k * 5 + 4, none⟩ = some (.slice B1 ks0.length q1) := (HBW.out.cell (p := ⟨b1, o1 + k * 5 + 4, none⟩) hb1).trans (hc1 4 _ rfl)
          have hb1' : b1 < wr.heap.size := by have := HBW.out.size; omega
          have hw1 : wrap64 (M - n) = M - n := by unfold wrap64; omega
          have hw2 : wrap64 (n + c) = n + c := by unfold wrap64; omega
          have HI : Hid (Calls Tryz.prog 57 #[.agg #[.int .i64 o0, vs n0, .int .i64 d0, .int .i64 m0, .slice B1 ks0.length q1], .int .i64 (M - n)] wr fun e w' => e = .returned (.int .i64 (cntI (.mk o0 n0 d0 m0 ks0) (M - n))) ∧ Below wr.heap.size wr w') := Lib.hid (IH.out (.mk o0 n0 d0 m0 ks0) _ _ _ (by omega) (by omega) (by omega) (HT1.out.keep HBW.out))
          clear hc1 hkd1 hx hxs hne
          go_wp2_with fail
          refine HI.out.mono ?_
          rintro e w2 ⟨rfl, hb2⟩
          rw [HC.out]
          have HB2 := Lib.hid hb2
          clear hb2 c1 z10 z11 z12 z13 z14
          go_wp2_with fail
          exact ⟨⟨k + 1, n + c, by omega, by go_num, rfl, by rw [HS2.out, HC.out], by omega, by omega, HB.out.trans (HB2.out.mono HB.out.size)⟩, by simp [intOf]; omega⟩
        · have hend : cntsI ks 1 M = n := by rw [HEQ.out, hstep, cntsI, if_neg hnm]
          have HE := Lib.hid hend
          clear hend hstep hx
          go_wp2_with fail
          go_ret
          exact ⟨by rw [HE.out]; rfl, HBW.out⟩
      · have hk' : k = ks.length := by omega
        subst hk'
        have hlt2 : ¬ ((ks.length : Nat) : Int) < ks.length := by omega
        have hend : cntsI ks 1 M = n := by rw [HEQ.out, List.drop_length, cntsI]
        have HE := Lib.hid hend
        clear hend
        go_wp2_with fail
        go_ret
        exact ⟨by rw [HE.out]; rfl, HBW.out⟩
set_option maxRecDepth 20000 in
set_option maxHeartbeats 4000000 in
theorem nodes_s : ∀ (N : Nat) (t : TreeI) (cs : List Value) (M : Int) (w : World), t.size ≤ N → 0 ≤ M → M ≤ 1000000 → RdX false w cs t →
    Calls Tryz.prog 24 #[.agg cs.toArray, .int .i64 M] w fun e w' => e = .returned (.int .i64 (cntI t M)) ∧ Below w.heap.size w w' := by
  intro N
  induction N with
  | zero =>
    intro t cs M w hN
    have := sizeI_pos t
    omega
  | succ N ih =>
    intro t cs M w hN hM0 hM hr1
    have IH := Lib.hid ih
    obtain ⟨op, name, cm, m, ks⟩ := t
    obtain ⟨A1, p1, rfl, -, hk1⟩ := hr1
    have HK1 := Lib.hid hk1
    simp only [TreeI.size] at hN
    simp only [tcX]
    rw [cntI]
    clear ih hk1
    go_enter Tryz.func24, Tryz.ntmps24
    go_wp2_with fail
    go_loopw [5, 6] (fun v5 v6 wr => ∃ (k : Nat) (n : Int), k ≤ ks.length ∧ v6 = .int .i64 k ∧ v5 = .int .i64 n ∧ cntsI ks 1 M = cntsI (ks.drop k) n M ∧ (k : Int) + 1 ≤ n ∧ n ≤ M + 1 ∧ Below (w.alloc (.cells #[.int .i64 op, vs name, .int .i64 m, .slice A1 ks.length p1] 28)).heap.size (w.alloc (.cells #[.int .i64 op, vs name, .int .i64 m, .slice A1 ks.length p1] 28)) wr) (fun _ v6 _ => ks.length - (intOf v6).toNat)
    case atStart => exact ⟨0, 1, Nat.zero_le _, rfl, rfl, rfl, by omega, by omega, Below.refl _ _⟩
    case round =>
      obtain ⟨k, n, hk, rfl, rfl, heq, hn1, hn2, hb⟩ := hrel
      have HEQ := Lib.hid heq
      have e1 : wr.heap[w.heap.size]? = some (.cells #[.int .i64 op, vs name, .int .i64 m, .slice A1 ks.length p1] 28 (0, 0)) := (hb.block _ (by simp)).trans (new_at rfl)
      have c1 : wr.cell? ⟨w.heap.size, 3, none⟩ = some (.slice A1 ks.length p1) := cell_of_blk (o := 3) e1 rfl
      have l1 := lt_of_heap' e1
      have hbw : Below w.heap.size w wr := ((Below.refl _ _).alloc (Nat.le_refl _) _).trans (hb.mono (by simp))
      have HB := Lib.hid hb
      have HBW := Lib.hid hbw
      clear hb e1 hbw heq
      by_cases hlt : k < ks.length
      · obtain ⟨x, hx⟩ := get_of_lt hlt
        have hk1 : (k : Int) < ks.length := by omega
        have hk0 : (0 : Int) ≤ k := by omega
        have hstep : ks.drop k = x :: ks.drop (k + 1) := by
          obtain ⟨h1, rfl⟩ := List.getElem?_eq_some_iff.1 hx
          exact List.drop_eq_getElem_cons h1
        by_cases hnm : n ≤ M
        · have hs2 : cntsI ks 1 M = cntsI (ks.drop (k + 1)) (n + cntI x (M - n)) M := by
            rw [HEQ.out, hstep, cntsI, if_pos hnm]
          have HS2 := Lib.hid hs2
          clear hs2 hstep
          have hxs := memI_size hx
          have hne : ks ≠ [] := by rintro rfl; simp at hlt
          obtain ⟨b1, o1, rfl, hb1, hkd1⟩ := HK1.out.resolve_left hne
          obtain ⟨xs1, hc1, ht1⟩ := hkd1.get hx
          have HT1 := Lib.hid ht1
          obtain ⟨q1', q2', q3', -⟩ := cnt_spec x (M - n)
          have q2 : cntI x (M - n) ≤ M - n + 1 := by omega
          have hc0 : ∃ c, cntI x (M - n) = c := ⟨_, rfl⟩
          obtain ⟨c, hc⟩ := hc0
          rw [hc] at q1' q2
          have HC := Lib.hid hc
          clear q2' q3' hc
          obtain ⟨o0, n0, d0, m0, ks0⟩ := x
          obtain ⟨B1, q1, rfl, -, -⟩ := ht1
          have z10 : wr.cell? ⟨b1, o1 + k * 4, none⟩ = some (.int .i64 o0) := (HBW.out.cell (p := ⟨b1, o1 + k * 4, none⟩) hb1).trans (hc1 0 _ rfl)
          have z11 : wr.cell? ⟨b1, o1 + k * 4 + 1, none⟩ = some (vs n0) := (HBW.out.cell (p := ⟨b1, o1 + k * 4 + 1, none⟩) hb1).trans (hc1 1 _ rfl)
          have z12 : wr.cell? ⟨b1, o1 + k * 4 + 2, none⟩ = some (.int .i64 m0) := (HBW.out.cell (p := ⟨b1, o1 + k * 4 + 2, none⟩) hb1).trans (hc1 2 _ rfl)
          have z13 : wr.cell? ⟨b1, o1 + k * 4 + 3, none⟩ = some (.slice B1 ks0.length q1) := (HBW.out.cell (p := ⟨b1, o1 + k * 4 + 3, none⟩) hb1).trans (hc1 3 _ rfl)
          have hb1' : b1 < wr.heap.size := by have := HBW.out.size; omega
          have hw1 : wrap64 (M - n) = M - n := by unfold wrap64; omega
          have hw2 : wrap64 (n + c) = n + c := by unfold wrap64; omega
          have HI : Hid (Calls Tryz.prog 24 #[.agg #[.int .i64 o0, vs n0, .int .i64 m0, .slice B1 ks0.length q1], .int .i64 (M - n)] wr fun e w' => e = .returned (.int .i64 (cntI (.mk o0 n0 d0 m0 ks0) (M - n))) ∧ Below wr.heap.size wr w') := Lib.hid (IH.out (.mk o0 n0 d0 m0 ks0) _ _ _ (by omega) (by omega) (by omega) (HT1.out.keep HBW.out))
          clear hc1 hkd1 hx hxs hne
          go_wp2_with fail
          refine HI.out.mono ?_
          rintro e w2 ⟨rfl, hb2⟩
          rw [HC.out]
          have HB2 := Lib.hid hb2
          clear hb2 c1 z10 z11 z12 z13
          go_wp2_with fail
          exact ⟨⟨k + 1, n + c, by omega, by go_num, rfl, by rw [HS2.out, HC.out], by omega, by omega, HB.out.trans (HB2.out.mono HB.out.size)⟩, by simp [intOf]; omega⟩
        · have hend : cntsI ks 1 M = n := by rw [HEQ.out, hstep, cntsI, if_neg hnm]
          have HE := Lib.hid hend
          clear hend hstep hx
          go_wp2_with fail
          go_ret
          exact ⟨by rw [HE.out]; rfl, HBW.out⟩
      · have hk' : k = ks.length := by omega
        subst hk'
        have hlt2 : ¬ ((ks.length : Nat) : Int) < ks.length := by omega
        have hend : cntsI ks 1 M = n := by rw [HEQ.out, List.drop_length, cntsI]
        have HE := Lib.hid hend
        clear hend
        go_wp2_with fail
        go_ret
        exact ⟨by rw [HE.out]; rfl, HBW.out⟩
end Go.Proofs.YtbicmjmcdnkjhaaGreatDoor
namespace Go.Proofs.YtbicmjmcdnkjhaaGreatDoor
open Go.RowKit
set_option maxRecDepth 20000 in
set_option maxHeartbeats 1000000 in
theorem small_f (t : TreeI) (cs : List Value) (M : Int) (w : World) (h0 : 0 ≤ M) (hM : M ≤ 1000000) (hr : RdX true w cs t) :
    Calls Tryz.prog 23 #[.agg cs.toArray, .int .i64 M] w fun e w' => e = .returned (.bool (decide (cntI t M ≤ M))) ∧ Below w.heap.size w w' := by
  have HR := Lib.hid hr
  obtain ⟨op, name, cm, m, ks⟩ := t
  obtain ⟨A1, p1, rfl, -, hk1⟩ := hr
  simp only [tcX]
  clear hk1
  go_enter Tryz.func23, Tryz.ntmps23
  go_wp2_with fail
  refine (count_f _ (.mk op name cm m ks) _ M _ (Nat.le_refl _) h0 hM (HR.out.keep (by repeat (first | exact Below.refl _ _ | refine Below.alloc ?_ (by simp) _)))).mono ?_
  rintro e w2 ⟨rfl, hb⟩
  have HB := Lib.hid hb
  clear hb
  go_wp2_with fail
  go_ret
  exact ⟨rfl, by first | exact HB.out | exact ((Below.refl _ _).alloc (Nat.le_refl _) _).trans (HB.out.mono (by simp))⟩
end Go.Proofs.YtbicmjmcdnkjhaaGreatDoor
namespace Go.Proofs.YtbicmjmcdnkjhaaGreatDoor
open Go.RowKit
theorem drop_neq {α : Type} [BEq α] [LawfulBEq α] {l m : List α} {k : Nat} {x y : α} (hx : l[k]? = some x) (hy : m[k]? = some y) : (l.drop k == m.drop k) = (x == y && l.drop (k + 1) == m.drop (k + 1)) := by
  obtain ⟨h1, rfl⟩ := List.getElem?_eq_some_iff.1 hx
  obtain ⟨h2, rfl⟩ := List.getElem?_eq_some_iff.1 hy
  rw [List.drop_eq_getElem_cons h1, List.drop_eq_getElem_cons h2]
  rfl
set_option maxRecDepth 20000 in
set_option maxHeartbeats 2000000 in
theorem names_eq (l m : List (List UInt8)) (A B : Option Addr) (c d : Nat) (w : World) (hr : RdS w A l) (hs : RdS w B m) (hl : l.length ≤ 1000000) :
    Calls Tryz.prog 49 #[.slice A l.length c, .slice B m.length d] w fun e w' => e = .returned (.bool (l == m)) ∧ Below w.heap.size w w' := by
  have HR := Lib.hid hr
  have HS := Lib.hid hs
  clear hr hs
  by_cases hn : l.length = m.length
  case neg =>
    have hd : ((l.length : Int) != (m.length : Int)) = true := by simp; omega
    have hres : (l == m) = false := by
      rw [Bool.eq_false_iff]
      intro h
      have : l = m := by simpa using h
      exact hn (by rw [this])
    rw [hres]
    clear hres HR HS
    go_enter Tryz.func49, Tryz.ntmps49
    go_wp2_with fail
    go_ret
    exact ⟨rfl, Below.refl _ _⟩
  have hd : ((l.length : Int) != (m.length : Int)) = false := by simp; omega
  have HN := Lib.hid hn
  clear hn
  go_enter Tryz.func49, Tryz.ntmps49
  go_wp2_with fail
  go_loopw [5] (fun v wr => ∃ k : Nat, k ≤ l.length ∧ v = .int .i64 k ∧ (l == m) = (l.drop k == m.drop k) ∧ Below w.heap.size w wr) (fun v _ => l.length - (intOf v).toNat)
  case atStart => exact ⟨0, Nat.zero_le _, rfl, rfl, Below.refl _ _⟩
  case round =>
    obtain ⟨k, hk, rfl, heq, hb⟩ := hrel
    have HEQ := Lib.hid heq
    have HB := Lib.hid hb
    clear hb heq
    by_cases hlt : k < l.length
    · obtain ⟨x, hx⟩ := get_of_lt hlt
      have hltm : k < m.length := by have := HN.out; omega
      obtain ⟨y, hy⟩ := get_of_lt hltm
      have HST := Lib.hid (drop_neq hx hy)
      obtain ⟨g1, r1, rfl, hg1, hc1⟩ := HR.out.item hx
      obtain ⟨g2, r2, rfl, hg2, hc2⟩ := HS.out.item hy
      have z1 : wr.cell? ⟨g1, r1 + k, none⟩ = some (vs x) := (HB.out.cell (p := ⟨g1, r1 + k, none⟩) hg1).trans hc1
      have z2 : wr.cell? ⟨g2, r2 + k, none⟩ = some (vs y) := (HB.out.cell (p := ⟨g2, r2 + k, none⟩) hg2).trans hc2
      have hk1 : (k : Int) < l.length := by omega
      have hk2 : (k : Int) < m.length := by omega
      have hk0 : (0 : Int) ≤ k := by omega
      clear hc1 hc2 hx hy
      cases hxy : (x == y) with
      | true =>
        have e : x = y := by simpa using hxy
        subst e
        rw [hxy] at HST
        clear hxy
        go_wp2_with fail
        go_quiet (fail)
        go_wp2_with fail
        exact ⟨⟨k + 1, by omega, by go_num, by rw [HEQ.out, HST.out, Bool.true_and], ⟨HB.out.os, HB.out.tape, HB.out.output, HB.out.size, HB.out.block⟩⟩, by simp [intOf]; omega⟩
      | false =>
        have hne : (x != y) = true := by rw [bne, hxy]; rfl
        rw [hxy] at HST
        go_wp2_with fail
        go_quiet (fail)
        go_wp2_with fail
        go_ret
        exact ⟨by rw [HEQ.out, HST.out, Bool.false_and]; rfl, ⟨HB.out.os, HB.out.tape, HB.out.output, HB.out.size, HB.out.block⟩⟩
    · have hk' : k = l.length := by omega
      subst hk'
      have hlt2 : ¬ ((l.length : Nat) : Int) < l.length := by omega
      have hend : (l == m) = true := by
        rw [HEQ.out, List.drop_length]
        have : m.drop l.length = [] := by rw [HN.out]; exact List.drop_length
        rw [this]
        rfl
      have HE := Lib.hid hend
      clear hend
      go_wp2_with fail
      go_ret
      exact ⟨by rw [HE.out]; rfl, HB.out⟩
end Go.Proofs.YtbicmjmcdnkjhaaGreatDoor
namespace Go.Proofs.YtbicmjmcdnkjhaaGreatDoor
open Go.RowKit
set_option maxRecDepth 20000 in
set_option maxHeartbeats 8000000 in
theorem sameP_any (P Q : ProvI) (cs1 cs2 : List Value) (w : World) (h1 : RdPX w cs1 P) (h2 : RdPX w cs2 Q) (hp1 : plainP P) (hp2 : plainP Q) (hsC : P.cond.size ≤ 1000000) (hsB : P.beg.size ≤ 1000000) (hsD : P.fin.size ≤ 1000000) (hsG : P.aga.size ≤ 1000000) (hse : P.exc.length ≤ 1000000) :
    Calls Tryz.prog 16 #[.agg cs1.toArray, .agg cs2.toArray] w fun e w' => e = .returned (.bool (eqP P Q)) ∧ Below w.heap.size w w' := by
  obtain ⟨id1, rank1, kind1, name1, value1, cond1, exc1, beg1, fin1, aga1⟩ := P
  obtain ⟨id2, rank2, kind2, name2, value2, cond2, exc2, beg2, fin2, aga2⟩ := Q
  obtain ⟨cc1, A1, p1, cb1, cf1, ca1, rfl, -, hcc1, hex1, hcb1, hcf1, hca1⟩ := h1
  obtain ⟨cc2, A2, p2, cb2, cf2, ca2, rfl, -, hcc2, hex2, hcb2, hcf2, hca2⟩ := h2
  obtain ⟨hpB1, hpD1, hpG1⟩ := hp1
  obtain ⟨hpB2, hpD2, hpG2⟩ := hp2
  simp only at *
  have TC1 := Lib.hid hcc1
  have TC2 := Lib.hid hcc2
  have TB1 := Lib.hid hcb1
  have TB2 := Lib.hid hcb2
  have TD1 := Lib.hid hcf1
  have TD2 := Lib.hid hcf2
  have TG1 := Lib.hid hca1
  have TG2 := Lib.hid hca2
  have PB1 := Lib.hid hpB1
  have PB2 := Lib.hid hpB2
  have PD1 := Lib.hid hpD1
  have PD2 := Lib.hid hpD2
  have PG1 := Lib.hid hpG1
  have PG2 := Lib.hid hpG2
  obtain ⟨oC1, nC1, dC1, mC1, ksC1⟩ := cond1
  obtain ⟨KC1, qC1, rfl, -, -⟩ := hcc1
  obtain ⟨oC2, nC2, dC2, mC2, ksC2⟩ := cond2
  obtain ⟨KC2, qC2, rfl, -, -⟩ := hcc2
  obtain ⟨oB1, nB1, dB1, mB1, ksB1⟩ := beg1
  obtain ⟨KB1, qB1, rfl, -, -⟩ := hcb1
  obtain ⟨oB2, nB2, dB2, mB2, ksB2⟩ := beg2
  obtain ⟨KB2, qB2, rfl, -, -⟩ := hcb2
  obtain ⟨oD1, nD1, dD1, mD1, ksD1⟩ := fin1
  obtain ⟨KD1, qD1, rfl, -, -⟩ := hcf1
  obtain ⟨oD2, nD2, dD2, mD2, ksD2⟩ := fin2
  obtain ⟨KD2, qD2, rfl, -, -⟩ := hcf2
  obtain ⟨oG1, nG1, dG1, mG1, ksG1⟩ := aga1
  obtain ⟨KG1, qG1, rfl, -, -⟩ := hca1
  obtain ⟨oG2, nG2, dG2, mG2, ksG2⟩ := aga2
  obtain ⟨KG2, qG2, rfl, -, -⟩ := hca2
  have E1 := Lib.hid hex1
  have E2 := Lib.hid hex2
  simp only [tcX, List.cons_append, List.nil_append]
  clear hex1 hex2 hpB1 hpB2 hpD1 hpD2 hpG1 hpG2
  cases hid : (id1 == id2) with
  | false =>
    have hE : eqP ⟨id1, rank1, kind1, name1, value1, (.mk oC1 nC1 dC1 mC1 ksC1), exc1, (.mk oB1 nB1 dB1 mB1 ksB1), (.mk oD1 nD1 dD1 mD1 ksD1), (.mk oG1 nG1 dG1 mG1 ksG1)⟩ ⟨id2, rank2, kind2, name2, value2, (.mk oC2 nC2 dC2 mC2 ksC2), exc2, (.mk oB2 nB2 dB2 mB2 ksB2), (.mk oD2 nD2 dD2 mD2 ksD2), (.mk oG2 nG2 dG2 mG2 ksG2)⟩ = false := by simp only [eqP, hid, Bool.false_and, Bool.and_false]
    have HE := Lib.hid hE
    clear hE
    go_enter Tryz.func16, Tryz.ntmps16
    go_wp2_with fail
    go_ret
    exact ⟨by rw [HE.out]; rfl, ((Below.refl _ _).alloc (Nat.le_refl _) _).alloc (by simp) _⟩
  | true =>
  cases hrank : (rank1 == rank2) with
  | false =>
    have hE : eqP ⟨id1, rank1, kind1, name1, value1, (.mk oC1 nC1 dC1 mC1 ksC1), exc1, (.mk oB1 nB1 dB1 mB1 ksB1), (.mk oD1 nD1 dD1 mD1 ksD1), (.mk oG1 nG1 dG1 mG1 ksG1)⟩ ⟨id2, rank2, kind2, name2, value2, (.mk oC2 nC2 dC2 mC2 ksC2), exc2, (.mk oB2 nB2 dB2 mB2 ksB2), (.mk oD2 nD2 dD2 mD2 ksD2), (.mk oG2 nG2 dG2 mG2 ksG2)⟩ = false := by simp only [eqP, hrank, Bool.false_and, Bool.and_false]
    have HE := Lib.hid hE
    clear hE
    go_enter Tryz.func16, Tryz.ntmps16
    go_wp2_with fail
    go_ret
    exact ⟨by rw [HE.out]; rfl, ((Below.refl _ _).alloc (Nat.le_refl _) _).alloc (by simp) _⟩
  | true =>
  cases hkind : (kind1 == kind2) with
  | false =>
    have hE : eqP ⟨id1, rank1, kind1, name1, value1, (.mk oC1 nC1 dC1 mC1 ksC1), exc1, (.mk oB1 nB1 dB1 mB1 ksB1), (.mk oD1 nD1 dD1 mD1 ksD1), (.mk oG1 nG1 dG1 mG1 ksG1)⟩ ⟨id2, rank2, kind2, name2, value2, (.mk oC2 nC2 dC2 mC2 ksC2), exc2, (.mk oB2 nB2 dB2 mB2 ksB2), (.mk oD2 nD2 dD2 mD2 ksD2), (.mk oG2 nG2 dG2 mG2 ksG2)⟩ = false := by simp only [eqP, hkind, Bool.false_and, Bool.and_false]
    have HE := Lib.hid hE
    clear hE
    go_enter Tryz.func16, Tryz.ntmps16
    go_wp2_with fail
    go_ret
    exact ⟨by rw [HE.out]; rfl, ((Below.refl _ _).alloc (Nat.le_refl _) _).alloc (by simp) _⟩
  | true =>
  cases hname : (name1 == name2) with
  | false =>
    have hE : eqP ⟨id1, rank1, kind1, name1, value1, (.mk oC1 nC1 dC1 mC1 ksC1), exc1, (.mk oB1 nB1 dB1 mB1 ksB1), (.mk oD1 nD1 dD1 mD1 ksD1), (.mk oG1 nG1 dG1 mG1 ksG1)⟩ ⟨id2, rank2, kind2, name2, value2, (.mk oC2 nC2 dC2 mC2 ksC2), exc2, (.mk oB2 nB2 dB2 mB2 ksB2), (.mk oD2 nD2 dD2 mD2 ksD2), (.mk oG2 nG2 dG2 mG2 ksG2)⟩ = false := by simp only [eqP, hname, Bool.false_and, Bool.and_false]
    have HE := Lib.hid hE
    clear hE
    go_enter Tryz.func16, Tryz.ntmps16
    go_wp2_with fail
    go_ret
    exact ⟨by rw [HE.out]; rfl, ((Below.refl _ _).alloc (Nat.le_refl _) _).alloc (by simp) _⟩
  | true =>
  cases hvalue : (value1 == value2) with
  | false =>
    have hE : eqP ⟨id1, rank1, kind1, name1, value1, (.mk oC1 nC1 dC1 mC1 ksC1), exc1, (.mk oB1 nB1 dB1 mB1 ksB1), (.mk oD1 nD1 dD1 mD1 ksD1), (.mk oG1 nG1 dG1 mG1 ksG1)⟩ ⟨id2, rank2, kind2, name2, value2, (.mk oC2 nC2 dC2 mC2 ksC2), exc2, (.mk oB2 nB2 dB2 mB2 ksB2), (.mk oD2 nD2 dD2 mD2 ksD2), (.mk oG2 nG2 dG2 mG2 ksG2)⟩ = false := by simp only [eqP, hvalue, Bool.false_and, Bool.and_false]
    have HE := Lib.hid hE
    clear hE
    go_enter Tryz.func16, Tryz.ntmps16
    go_wp2_with fail
    go_ret
    exact ⟨by rw [HE.out]; rfl, ((Below.refl _ _).alloc (Nat.le_refl _) _).alloc (by simp) _⟩
  | true =>
  have hE : eqP ⟨id1, rank1, kind1, name1, value1, (.mk oC1 nC1 dC1 mC1 ksC1), exc1, (.mk oB1 nB1 dB1 mB1 ksB1), (.mk oD1 nD1 dD1 mD1 ksD1), (.mk oG1 nG1 dG1 mG1 ksG1)⟩ ⟨id2, rank2, kind2, name2, value2, (.mk oC2 nC2 dC2 mC2 ksC2), exc2, (.mk oB2 nB2 dB2 mB2 ksB2), (.mk oD2 nD2 dD2 mD2 ksD2), (.mk oG2 nG2 dG2 mG2 ksG2)⟩ = (exc1 == exc2 && eqX (.mk oC1 nC1 dC1 mC1 ksC1) (.mk oC2 nC2 dC2 mC2 ksC2) && eqX (.mk oB1 nB1 dB1 mB1 ksB1) (.mk oB2 nB2 dB2 mB2 ksB2) && eqX (.mk oD1 nD1 dD1 mD1 ksD1) (.mk oD2 nD2 dD2 mD2 ksD2) && eqX (.mk oG1 nG1 dG1 mG1 ksG1) (.mk oG2 nG2 dG2 mG2 ksG2)) := by simp only [eqP, hid, hrank, hkind, hname, hvalue, Bool.true_and]
  rw [hE]
  clear hE
  go_enter Tryz.func16, Tryz.ntmps16
  go_wp2_with fail
  have hw0 : Below w.heap.size w ((w.alloc (.cells #[vs id1, .int .i64 rank1, .int .i64 kind1, vs name1, .int .i64 value1, .int .i64 oC1, vs nC1, .int .i64 dC1, .int .i64 mC1, .slice KC1 ksC1.length qC1, .slice A1 exc1.length p1, .int .i64 oB1, vs nB1, .int .i64 mB1, .slice KB1 ksB1.length qB1, .int .i64 oD1, vs nD1, .int .i64 mD1, .slice KD1 ksD1.length qD1, .int .i64 oG1, vs nG1, .int .i64 mG1, .slice KG1 ksG1.length qG1] 30)).alloc (.cells #[vs id2, .int .i64 rank2, .int .i64 kind2, vs name2, .int .i64 value2, .int .i64 oC2, vs nC2, .int .i64 dC2, .int .i64 mC2, .slice KC2 ksC2.length qC2, .slice A2 exc2.length p2, .int .i64 oB2, vs nB2, .int .i64 mB2, .slice KB2 ksB2.length qB2, .int .i64 oD2, vs nD2, .int .i64 mD2, .slice KD2 ksD2.length qD2, .int .i64 oG2, vs nG2, .int .i64 mG2, .slice KG2 ksG2.length qG2] 30)) := ((Below.refl _ _).alloc (Nat.le_refl _) _).alloc (by simp) _
  have HW := Lib.hid hw0
  have HX1 := Lib.hid (show ((w.alloc (.cells #[vs id1, .int .i64 rank1, .int .i64 kind1, vs name1, .int .i64 value1, .int .i64 oC1, vs nC1, .int .i64 dC1, .int .i64 mC1, .slice KC1 ksC1.length qC1, .slice A1 exc1.length p1, .int .i64 oB1, vs nB1, .int .i64 mB1, .slice KB1 ksB1.length qB1, .int .i64 oD1, vs nD1, .int .i64 mD1, .slice KD1 ksD1.length qD1, .int .i64 oG1, vs nG1, .int .i64 mG1, .slice KG1 ksG1.length qG1] 30)).alloc (.cells #[vs id2, .int .i64 rank2, .int .i64 kind2, vs name2, .int .i64 value2, .int .i64 oC2, vs nC2, .int .i64 dC2, .int .i64 mC2, .slice KC2 ksC2.length qC2, .slice A2 exc2.length p2, .int .i64 oB2, vs nB2, .int .i64 mB2, .slice KB2 ksB2.length qB2, .int .i64 oD2, vs nD2, .int .i64 mD2, .slice KD2 ksD2.length qD2, .int .i64 oG2, vs nG2, .int .i64 mG2, .slice KG2 ksG2.length qG2] 30)).heap[w.heap.size]? = some (.cells #[vs id1, .int .i64 rank1, .int .i64 kind1, vs name1, .int .i64 value1, .int .i64 oC1, vs nC1, .int .i64 dC1, .int .i64 mC1, .slice KC1 ksC1.length qC1, .slice A1 exc1.length p1, .int .i64 oB1, vs nB1, .int .i64 mB1, .slice KB1 ksB1.length qB1, .int .i64 oD1, vs nD1, .int .i64 mD1, .slice KD1 ksD1.length qD1, .int .i64 oG1, vs nG1, .int .i64 mG1, .slice KG1 ksG1.length qG1] 30 (0, 0)) from kept_at (new_at rfl))
  have HX2 := Lib.hid (show ((w.alloc (.cells #[vs id1, .int .i64 rank1, .int .i64 kind1, vs name1, .int .i64 value1, .int .i64 oC1, vs nC1, .int .i64 dC1, .int .i64 mC1, .slice KC1 ksC1.length qC1, .slice A1 exc1.length p1, .int .i64 oB1, vs nB1, .int .i64 mB1, .slice KB1 ksB1.length qB1, .int .i64 oD1, vs nD1, .int .i64 mD1, .slice KD1 ksD1.length qD1, .int .i64 oG1, vs nG1, .int .i64 mG1, .slice KG1 ksG1.length qG1] 30)).alloc (.cells #[vs id2, .int .i64 rank2, .int .i64 kind2, vs name2, .int .i64 value2, .int .i64 oC2, vs nC2, .int .i64 dC2, .int .i64 mC2, .slice KC2 ksC2.length qC2, .slice A2 exc2.length p2, .int .i64 oB2, vs nB2, .int .i64 mB2, .slice KB2 ksB2.length qB2, .int .i64 oD2, vs nD2, .int .i64 mD2, .slice KD2 ksD2.length qD2, .int .i64 oG2, vs nG2, .int .i64 mG2, .slice KG2 ksG2.length qG2] 30)).heap[w.heap.size + 1]? = some (.cells #[vs id2, .int .i64 rank2, .int .i64 kind2, vs name2, .int .i64 value2, .int .i64 oC2, vs nC2, .int .i64 dC2, .int .i64 mC2, .slice KC2 ksC2.length qC2, .slice A2 exc2.length p2, .int .i64 oB2, vs nB2, .int .i64 mB2, .slice KB2 ksB2.length qB2, .int .i64 oD2, vs nD2, .int .i64 mD2, .slice KD2 ksD2.length qD2, .int .i64 oG2, vs nG2, .int .i64 mG2, .slice KG2 ksG2.length qG2] 30 (0, 0)) from new_at (by simp))
  clear hw0
  refine (names_eq exc1 exc2 _ _ _ _ _ (E1.out.below HW.out) (E2.out.below HW.out) hse).mono ?_
  rintro e w3 ⟨rfl, hb3⟩
  have HW3 := Lib.hid (HW.out.trans (hb3.mono HW.out.size))
  have HX1w3 := Lib.hid ((hb3.block _ (lt_of_heap' HX1.out)).trans HX1.out)
  have HX2w3 := Lib.hid ((hb3.block _ (lt_of_heap' HX2.out)).trans HX2.out)
  have u0x5 := cell_of_blk (o := 5) HX1w3.out rfl
  have v0x5 := cell_of_blk (o := 5) HX2w3.out rfl
  have u0x6 := cell_of_blk (o := 6) HX1w3.out rfl
  have v0x6 := cell_of_blk (o := 6) HX2w3.out rfl
  have u0x7 := cell_of_blk (o := 7) HX1w3.out rfl
  have v0x7 := cell_of_blk (o := 7) HX2w3.out rfl
  have u0x8 := cell_of_blk (o := 8) HX1w3.out rfl
  have v0x8 := cell_of_blk (o := 8) HX2w3.out rfl
  have u0x9 := cell_of_blk (o := 9) HX1w3.out rfl
  have v0x9 := cell_of_blk (o := 9) HX2w3.out rfl
  have l1w3 := lt_of_heap' HX1w3.out
  have l2w3 := lt_of_heap' HX2w3.out
  clear hb3
  cases hv0 : (exc1 == exc2) with
  | false =>
    go_wp2_with fail
    go_ret
    exact ⟨by simp only [hv0, Bool.true_and, Bool.false_and]; rfl, HW3.out⟩
  | true =>
  go_wp2_with fail
  refine (sameX_f _ (.mk oC1 nC1 dC1 mC1 ksC1) (.mk oC2 nC2 dC2 mC2 ksC2) _ _ _ (Nat.le_refl _) hsC (TC1.out.keep HW3.out) (TC2.out.keep HW3.out)).mono ?_
  rintro e w4 ⟨rfl, hb4⟩
  have HW4 := Lib.hid (HW3.out.trans (hb4.mono HW3.out.size))
  have HX1w4 := Lib.hid ((hb4.block _ (lt_of_heap' HX1w3.out)).trans HX1w3.out)
  have HX2w4 := Lib.hid ((hb4.block _ (lt_of_heap' HX2w3.out)).trans HX2w3.out)
  have u1x11 := cell_of_blk (o := 11) HX1w4.out rfl
  have v1x11 := cell_of_blk (o := 11) HX2w4.out rfl
  have u1x12 := cell_of_blk (o := 12) HX1w4.out rfl
  have v1x12 := cell_of_blk (o := 12) HX2w4.out rfl
  have u1x13 := cell_of_blk (o := 13) HX1w4.out rfl
  have v1x13 := cell_of_blk (o := 13) HX2w4.out rfl
  have u1x14 := cell_of_blk (o := 14) HX1w4.out rfl
  have v1x14 := cell_of_blk (o := 14) HX2w4.out rfl
  have l1w4 := lt_of_heap' HX1w4.out
  have l2w4 := lt_of_heap' HX2w4.out
  clear hb4
  cases hv1 : (eqX (.mk oC1 nC1 dC1 mC1 ksC1) (.mk oC2 nC2 dC2 mC2 ksC2)) with
  | false =>
    go_wp2_with fail
    go_ret
    exact ⟨by simp only [hv0, hv1, Bool.true_and, Bool.false_and]; rfl, HW4.out⟩
  | true =>
  go_wp2_with fail
  refine (sameX_s _ (.mk oB1 nB1 dB1 mB1 ksB1) (.mk oB2 nB2 dB2 mB2 ksB2) _ _ _ (Nat.le_refl _) hsB PB1.out PB2.out (TB1.out.keep HW4.out) (TB2.out.keep HW4.out)).mono ?_
  rintro e w5 ⟨rfl, hb5⟩
  have HW5 := Lib.hid (HW4.out.trans (hb5.mono HW4.out.size))
  have HX1w5 := Lib.hid ((hb5.block _ (lt_of_heap' HX1w4.out)).trans HX1w4.out)
  have HX2w5 := Lib.hid ((hb5.block _ (lt_of_heap' HX2w4.out)).trans HX2w4.out)
  have u2x15 := cell_of_blk (o := 15) HX1w5.out rfl
  have v2x15 := cell_of_blk (o := 15) HX2w5.out rfl
  have u2x16 := cell_of_blk (o := 16) HX1w5.out rfl
  have v2x16 := cell_of_blk (o := 16) HX2w5.out rfl
  have u2x17 := cell_of_blk (o := 17) HX1w5.out rfl
  have v2x17 := cell_of_blk (o := 17) HX2w5.out rfl
  have u2x18 := cell_of_blk (o := 18) HX1w5.out rfl
  have v2x18 := cell_of_blk (o := 18) HX2w5.out rfl
  have l1w5 := lt_of_heap' HX1w5.out
  have l2w5 := lt_of_heap' HX2w5.out
  clear hb5
  cases hv2 : (eqX (.mk oB1 nB1 dB1 mB1 ksB1) (.mk oB2 nB2 dB2 mB2 ksB2)) with
  | false =>
    go_wp2_with fail
    go_ret
    exact ⟨by simp only [hv0, hv1, hv2, Bool.true_and, Bool.false_and]; rfl, HW5.out⟩
  | true =>
  go_wp2_with fail
  refine (sameX_s _ (.mk oD1 nD1 dD1 mD1 ksD1) (.mk oD2 nD2 dD2 mD2 ksD2) _ _ _ (Nat.le_refl _) hsD PD1.out PD2.out (TD1.out.keep HW5.out) (TD2.out.keep HW5.out)).mono ?_
  rintro e w6 ⟨rfl, hb6⟩
  have HW6 := Lib.hid (HW5.out.trans (hb6.mono HW5.out.size))
  have HX1w6 := Lib.hid ((hb6.block _ (lt_of_heap' HX1w5.out)).trans HX1w5.out)
  have HX2w6 := Lib.hid ((hb6.block _ (lt_of_heap' HX2w5.out)).trans HX2w5.out)
  have u3x19 := cell_of_blk (o := 19) HX1w6.out rfl
  have v3x19 := cell_of_blk (o := 19) HX2w6.out rfl
  have u3x20 := cell_of_blk (o := 20) HX1w6.out rfl
  have v3x20 := cell_of_blk (o := 20) HX2w6.out rfl
  have u3x21 := cell_of_blk (o := 21) HX1w6.out rfl
  have v3x21 := cell_of_blk (o := 21) HX2w6.out rfl
  have u3x22 := cell_of_blk (o := 22) HX1w6.out rfl
  have v3x22 := cell_of_blk (o := 22) HX2w6.out rfl
  have l1w6 := lt_of_heap' HX1w6.out
  have l2w6 := lt_of_heap' HX2w6.out
  clear hb6
  cases hv3 : (eqX (.mk oD1 nD1 dD1 mD1 ksD1) (.mk oD2 nD2 dD2 mD2 ksD2)) with
  | false =>
    go_wp2_with fail
    go_ret
    exact ⟨by simp only [hv0, hv1, hv2, hv3, Bool.true_and, Bool.false_and]; rfl, HW6.out⟩
  | true =>
  go_wp2_with fail
  refine (sameX_s _ (.mk oG1 nG1 dG1 mG1 ksG1) (.mk oG2 nG2 dG2 mG2 ksG2) _ _ _ (Nat.le_refl _) hsG PG1.out PG2.out (TG1.out.keep HW6.out) (TG2.out.keep HW6.out)).mono ?_
  rintro e w7 ⟨rfl, hb7⟩
  have HW7 := Lib.hid (HW6.out.trans (hb7.mono HW6.out.size))
  clear hb7
  cases hv4 : (eqX (.mk oG1 nG1 dG1 mG1 ksG1) (.mk oG2 nG2 dG2 mG2 ksG2)) with
  | false =>
    go_wp2_with fail
    go_ret
    exact ⟨by simp only [hv0, hv1, hv2, hv3, hv4, Bool.true_and, Bool.false_and]; rfl, HW7.out⟩
  | true =>
  go_wp2_with fail
  go_ret
  exact ⟨by simp only [hv0, hv1, hv2, hv3, hv4, Bool.true_and]; rfl, HW7.out⟩
end Go.Proofs.YtbicmjmcdnkjhaaGreatDoor
namespace Go.Proofs.YtbicmjmcdnkjhaaGreatDoor
def exP (id : Bytes) : Prov := ⟨id, 2, 2, [116, 97, 120], 5, .mk 6 [] 0 0 [.mk 3 [97, 103, 101] 6 18 [], .mk 5 [] 0 0 [.mk 4 [112, 111, 111, 114] 0 0 []]], [[112, 50], [112, 51]], .mk 9 [] 0 0 [.mk 3 [] 0 10 [], .mk 4 [111, 49] 0 0 []], .mk 2 [] 0 0 [], .mk 2 [] 0 0 []⟩
abbrev exN : Bytes := [97, 99, 116, 32, 112, 49, 58, 32, 97, 110, 115, 119, 101, 114, 32, 116, 97, 120, 32, 105, 115, 32, 53, 32, 105, 102, 32, 97, 103, 101, 32, 62, 61, 32, 49, 56, 32, 97, 110, 100, 32, 110, 111, 116, 32, 112, 111, 111, 114, 32, 110, 111, 116, 119, 105, 116, 104, 115, 116, 97, 110, 100, 105, 110, 103, 32, 112, 50, 44, 32, 112, 51, 32, 102, 114, 111, 109, 32, 100, 97, 121, 32, 49, 48, 32, 111, 114, 32, 111, 114, 100, 101, 114, 32, 111, 49, 46]
abbrev exS : Bytes := [119, 104, 101, 114, 101, 32, 123, 32, 97, 103, 101, 32, 49, 56, 32, 108, 101, 97, 115, 116, 32, 112, 111, 111, 114, 32, 100, 101, 102, 105, 110, 101, 100, 32, 110, 101, 103, 97, 116, 101, 100, 32, 97, 108, 108, 32, 50, 32, 125, 32, 113, 117, 101, 115, 116, 105, 111, 110, 32, 116, 97, 120, 32, 103, 105, 118, 101, 115, 32, 53, 32, 111, 118, 101, 114, 114, 105, 100, 101, 115, 32, 40, 112, 50, 32, 112, 51, 41, 32, 115, 116, 97, 114, 116, 115, 32, 123, 32, 49, 48, 32, 100, 97, 121, 32, 111, 49, 32, 100, 101, 99, 114, 101, 101, 32, 97, 110, 121, 32, 50, 32, 125, 32, 91, 115, 116, 97, 116, 117, 116, 101, 32, 112, 49, 93]
abbrev exW : Bytes := [119, 104, 101, 114, 101]
theorem dec_2 : dec 2 = [50] := dec_small (by decide)
theorem dec_5 : dec 5 = [53] := dec_small (by decide)
theorem dec_10 : dec 10 = [49, 48] := by rw [dec_big (by decide), show 10 / 10 = 1 from rfl, dec_small (by decide)]; rfl
theorem dec_18 : dec 18 = [49, 56] := by rw [dec_big (by decide), show 18 / 10 = 1 from rfl, dec_small (by decide)]; rfl
theorem ex_wr (id : Bytes) : WrOk (exP id) where
  rank := by show 1 ≤ 2 ∧ 2 ≤ 4; decide
  kind := Or.inr rfl
  value := by show 5 ≤ 1000000; decide
  cond := by rfl
  condS := by rfl
  excN := by show [[112, 50], [112, 51]].Nodup; decide
  excL := by show 2 ≤ 20; decide
  beg := by rfl
  begS := by rfl
  fin := by rfl
  finS := by rfl
  aga := by rfl
  agaS := by rfl
theorem ex_plain (id : Bytes) : plainP (upP (exP id)) := plainP_up (ex_wr id)
theorem ex_names (id : Bytes) : namesP (exP id) = [id, [116, 97, 120], [112, 50], [112, 51], [97, 103, 101], [112, 111, 111, 114], [111, 49]] := rfl
set_option maxRecDepth 20000 in
theorem ex_north : northA (upP (exP [112, 49])) = (exN, 0) := by
  rw [← refA_north (ex_plain _)]
  unfold refA
  rw [writtenR_eq (ex_plain _), if_pos (written_up (ex_wr _)), down_upP, ex_names, if_pos (by decide)]
  have : rText (exP [112, 49]) = exN := by
    unfold rText exP
    simp [rF, rFs, rS, rSs, wrapB, joinT', signs, startW, ranksN, Tree.op, dec_5, dec_10, dec_18]
  rw [this]
  decide
set_option maxRecDepth 20000 in
theorem ex_south : southA (upP (exP [112, 49])) = (exS, 0) := by
  rw [← refA_south (ex_plain _)]
  unfold refA
  rw [writtenR_eq (ex_plain _), if_pos (written_up (ex_wr _)), down_upP, ex_names, if_pos (by decide)]
  have : So.rText (exP [112, 49]) = exS := by
    unfold So.rText exP
    simp [So.rF, So.rFs, So.rS, So.rSs, joinT', So.cmpW, So.opsW, So.ranksS, Tree.op, dec_2, dec_5, dec_10, dec_18]
  rw [this]
  decide
set_option maxRecDepth 20000 in
theorem ex_where : (northA (upP (exP exW))).2 = 0 ∧ (southA (upP (exP exW))).2 = 7 := by
  constructor
  · rw [← refA_north (ex_plain _)]
    unfold refA
    rw [writtenR_eq (ex_plain _), if_pos (written_up (ex_wr _)), down_upP, ex_names, if_pos (by decide)]
    have : ∃ s, rText (exP exW) = s ∧ (shortA s).2 = 0 := by
      refine ⟨[97, 99, 116, 32, 119, 104, 101, 114, 101, 58, 32, 97, 110, 115, 119, 101, 114, 32, 116, 97, 120, 32, 105, 115, 32, 53, 32, 105, 102, 32, 97, 103, 101, 32, 62, 61, 32, 49, 56, 32, 97, 110, 100, 32, 110, 111, 116, 32, 112, 111, 111, 114, 32, 110, 111, 116, 119, 105, 116, 104, 115, 116, 97, 110, 100, 105, 110, 103, 32, 112, 50, 44, 32, 112, 51, 32, 102, 114, 111, 109, 32, 100, 97, 121, 32, 49, 48, 32, 111, 114, 32, 111, 114, 100, 101, 114, 32, 111, 49, 46], ?_, by decide⟩
      unfold rText exP
      simp [rF, rFs, rS, rSs, wrapB, joinT', signs, startW, ranksN, Tree.op, dec_5, dec_10, dec_18]
    obtain ⟨s, e, h⟩ := this
    rw [e, h]
  · rw [← refA_south (ex_plain _)]
    unfold refA
    rw [writtenR_eq (ex_plain _), if_pos (written_up (ex_wr _)), down_upP, ex_names, if_neg (by decide)]
theorem ex_five {p : ProvI} (h : p.rank = 5) : (northA p).2 = 1 ∧ (southA p).2 = 1 := by
  obtain ⟨a, b⟩ := ans_arg (p := p) (refuses_ref (by unfold refP; rw [h]; rfl))
  rw [a, b]
  exact ⟨rfl, rfl⟩
end Go.Proofs.YtbicmjmcdnkjhaaGreatDoor
