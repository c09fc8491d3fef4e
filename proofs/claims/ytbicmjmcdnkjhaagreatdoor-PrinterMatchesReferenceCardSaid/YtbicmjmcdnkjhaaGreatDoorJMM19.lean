/- Sizes and depths of conditions with whatever numbers: pandectref07.Size, pandectref10.Depth. The reference's start and form: are the nodes as required? The reference's form: are the nodes as required? The reference's Formula: can a formula be written? The reference's Start: can a condition be written? -/
import Derived.Test.YtbicmjmcdnkjhaaGreatDoorJMM1
import Derived.Test.YtbicmjmcdnkjhaaGreatDoorJMM7
import Derived.Test.YtbicmjmcdnkjhaaGreatDoorJMM13
import Derived.Deep.CutRange
import Derived.Test.YtbicmjmcdnkjhaaGreatDoorJMM18
set_option linter.unusedVariables false
set_option linter.unusedSimpArgs false
set_option maxRecDepth 20000
set_option maxHeartbeats 4000000
namespace Go.Proofs.YtbicmjmcdnkjhaaGreatDoor
open Go.RowKit
theorem tk_snoc {α : Type} {l : List α} {k : Nat} {x : α} (h : l[k]? = some x) : l.take (k + 1) = l.take k ++ [x] := by
 rw [List.take_add_one, h]
 rfl
theorem sizesI_app : ∀ a b : List TreeI, sizesI (a ++ b) = sizesI a + sizesI b
 | [], b => by simp [sizesI]
 | t :: r, b => by rw [List.cons_append, sizesI, sizesI, sizesI_app r b, Nat.add_assoc]
theorem deepsI_app : ∀ a b : List TreeI, deepsI (a ++ b) = max (deepsI a) (deepsI b)
 | [], b => by simp [deepsI]
 | t :: r, b => by rw [List.cons_append, deepsI, deepsI, deepsI_app r b]; omega
theorem sizesI_one {l : List TreeI} {k : Nat} {t : TreeI} (h : l[k]? = some t) : sizesI (l.take (k + 1)) = sizesI (l.take k) + t.size := by rw [tk_snoc h, sizesI_app]; simp [sizesI]
theorem deepsI_one {l : List TreeI} {k : Nat} {t : TreeI} (h : l[k]? = some t) : deepsI (l.take (k + 1)) = max (deepsI (l.take k)) t.deep := by rw [tk_snoc h, deepsI_app]; simp [deepsI]
mutual
theorem deepI_le : ∀ t : TreeI, t.deep ≤ t.size
 | .mk _ _ _ _ ks => by rw [TreeI.deep, TreeI.size]; have := deepsI_le ks; omega
theorem deepsI_le : ∀ ks : List TreeI, deepsI ks ≤ sizesI ks
 | [] => by simp [deepsI]
 | t :: r => by rw [deepsI, sizesI]; have := deepI_le t; have := deepsI_le r; omega
end
theorem szI_ret (op : Int) (name : List UInt8) (cm m : Int) (ks : List TreeI) : Ending.returned (.tuple #[.int .i64 ((1 : Int) + (sizesI ks : Int)), .int .i64 ((deepsI ks : Int) + 1)]) = .returned (.tuple #[.int .i64 ((TreeI.mk op name cm m ks).size : Int), .int .i64 ((TreeI.mk op name cm m ks).deep : Int)]) := by
 rw [TreeI.size, TreeI.deep]
 simp
theorem wrap64_up {k : Nat} (h : k < 9000000) : wrap64 ((k : Int) + 1) = ((k + 1 : Nat) : Int) := by unfold wrap64; omega
theorem deepI_max {a b c : Nat} (h : c = max a b) : Value.int .i64 (if a < b then (b : Int) else (a : Int)) = .int .i64 (c : Int) := by
 subst h
 congr 1
 split <;> omega
theorem deepI_mx {a b c : Nat} (h : c = max a b) : Value.int .i64 (max (a : Int) (b : Int)) = .int .i64 (c : Int) := by
 subst h
 congr 1
 omega
theorem size_x : ∀ (N : Nat) (t : TreeI) (cs : List Value) (w : World), t.size ≤ N → t.size ≤ 1000000 → RdX true w cs t →
 Calls Tryz.prog 109 #[.agg cs.toArray] w fun e w' => e = .returned (.tuple #[.int .i64 (t.size : Int), .int .i64 (t.deep : Int)]) ∧ Below w.heap.size w w' := by
 intro N
 induction N with
 | zero =>
   intro t cs w hN
   have := sizeI_pos t
   omega
 | succ N ih =>
   intro t cs w hN hs hr1
   have IH := Hi ih
   obtain ⟨op, name, cm, m, ks⟩ := t
   obtain ⟨A1, p1, rfl, -, hk1⟩ := hr1
   have HK1 := Hi hk1
   simp only [TreeI.size] at hN hs
   simp only [tcX]
   clear ih hk1
   go_enter Tryz.func109, Tryz.ntmps109
   go_wp2_with fail
   have HE0 : Hid ((w.alloc (.cells #[.int .i64 op, vs name, .int .i64 cm, .int .i64 m, .slice A1 ks.length p1] 24 (0, 0))).heap[w.heap.size]? = some (.cells #[.int .i64 op, vs name, .int .i64 cm, .int .i64 m, .slice A1 ks.length p1] 24 (0, 0))) := Hi (new_at rfl)
   have HB0 : Hid (Below w.heap.size w (w.alloc (.cells #[.int .i64 op, vs name, .int .i64 cm, .int .i64 m, .slice A1 ks.length p1] 24 (0, 0)))) := Hi ((Below.refl _ _).alloc (lR _) _)
   generalize (w.alloc (.cells #[.int .i64 op, vs name, .int .i64 cm, .int .i64 m, .slice A1 ks.length p1] 24 (0, 0))) = w0 at *
   go_loopw [4, 5, 6] (fun v4 v5 v6 wr => ∃ k : Nat, k ≤ ks.length ∧ v6 = .int .i64 k ∧ v4 = .int .i64 ((1 + sizesI (ks.take k) : Nat) : Int) ∧ v5 = .int .i64 (deepsI (ks.take k)) ∧ Below w0.heap.size w0 wr) (fun v4 v5 v6 _ => ks.length - (intOf v6).toNat)
   case atStart => exact ⟨0, Nat.zero_le _, rfl, rfl, rfl, Below.refl _ _⟩
   case round =>
    obtain ⟨k, hkl, rfl, rfl, rfl, hb⟩ := hrel
    have hsz := sizesI_take (ks := ks) k
    have hdz := deepsI_le (ks.take k)
    have hln := kidsI_le ks
    have e1 : wr.heap[w.heap.size]? = some (.cells #[.int .i64 op, vs name, .int .i64 cm, .int .i64 m, .slice A1 ks.length p1] 24 (0, 0)) := (hb.block _ (lHp HE0.out)).trans HE0.out
    have c4 : wr.cell? ⟨w.heap.size, 4, none⟩ = some (.slice A1 ks.length p1) := cOb (o := 4) e1 rfl
    have l1 := lHp e1
    have HB := Hi hb
    have HBW := Hi (HB0.out.trans (hb.mono HB0.out.size))
    clear hb e1
    by_cases hlt : k < ks.length
    · obtain ⟨t, ht⟩ := gLt hlt
      have HST := Hi (sizesI_one ht)
      have HDT := Hi (deepsI_one ht)
      have hst2 := memI_size ht
      have hst3 := sizesI_take (ks := ks) (k + 1)
      rw [HST.out] at hst3
      have hdt := deepI_le t
      have hne : ks ≠ [] := by rintro rfl; simp at hlt
      obtain ⟨b, off, rfl, hbs, hkd⟩ := HK1.out.resolve_left hne
      obtain ⟨cs, hcs, hrt⟩ := hkd.get ht
      have HRTK := Hi hrt
      obtain ⟨op', nm', cm', m', ks'⟩ := t
      obtain ⟨A', cap', rfl, -, -⟩ := hrt
      have hbw : b < wr.heap.size := Nat.lt_of_lt_of_le hbs HBW.out.size
      have e0 : wr.cell? ⟨b, off + k * 5, none⟩ = some (.int .i64 op') := (HBW.out.cell (p := ⟨b, off + k * 5, none⟩) hbs).trans (hcs 0 _ rfl)
      have e1 : wr.cell? ⟨b, off + k * 5 + 1, none⟩ = some (vs nm') := (HBW.out.cell (p := ⟨b, off + k * 5 + 1, none⟩) hbs).trans (hcs 1 _ rfl)
      have e2 : wr.cell? ⟨b, off + k * 5 + 2, none⟩ = some (.int .i64 cm') := (HBW.out.cell (p := ⟨b, off + k * 5 + 2, none⟩) hbs).trans (hcs 2 _ rfl)
      have e3 : wr.cell? ⟨b, off + k * 5 + 3, none⟩ = some (.int .i64 m') := (HBW.out.cell (p := ⟨b, off + k * 5 + 3, none⟩) hbs).trans (hcs 3 _ rfl)
      have e4 : wr.cell? ⟨b, off + k * 5 + 4, none⟩ = some (.slice A' ks'.length cap') := (HBW.out.cell (p := ⟨b, off + k * 5 + 4, none⟩) hbs).trans (hcs 4 _ rfl)
      have hk1 : (k : Int) < ks.length := by omega
      have hwk := wrap64_up (k := k) (by omega)
      have hs1 : wrap64 ((1 : Int) + (sizesI (ks.take k) : Int) + ((TreeI.mk op' nm' cm' m' ks').size : Int)) = ((1 + sizesI (ks.take (k + 1)) : Nat) : Int) := by rw [HST.out]; unfold wrap64; omega
      have HS1 := Hi hs1
      have HWK := Hi hwk
      clear ht hkd hcs hwk hs1 hsz hdz hln
      go_wp2_with fail
      refine (IH.out (.mk op' nm' cm' m' ks') (tcX true op' nm' cm' m' (.slice A' ks'.length cap')) _ (by omega) (by omega) (HRTK.out.keep HBW.out)).mono ?_
      rintro e w3 ⟨rfl, hb3⟩
      have HB3 := Hi hb3
      clear hb3 hst2 hst3 hdt c4
      go_wp2_with fail
      rw [HWK.out, HS1.out]
      exact ⟨⟨k + 1, hlt, rfl, rfl, by first | exact deepI_max HDT.out | exact deepI_mx HDT.out, HB.out.trans (HB3.out.mono HB.out.size)⟩, Nat.sub_lt_sub_left hlt (Nat.lt_succ_self k)⟩
    · have : k = ks.length := by omega
      subst this
      simp only [List.take_length]
      have hdk := deepsI_le ks
      simp only [List.take_length] at hdz hsz
      have hk1 : ¬ ((ks.length : Nat) : Int) < ks.length := by omega
      go_wp2_with fail
      go_ret2
      exact ⟨szI_ret op name cm m ks, HBW.out⟩
theorem depth_x : ∀ (N : Nat) (t : TreeI) (cs : List Value) (w : World), t.size ≤ N → t.size ≤ 1000000 → RdX false w cs t →
 Calls Tryz.prog 111 #[.agg cs.toArray] w fun e w' => e = .returned (.int .i64 (t.deep : Int)) ∧ Below w.heap.size w w' := by
 intro N
 induction N with
 | zero =>
   intro t cs w hN
   have := sizeI_pos t
   omega
 | succ N ih =>
   intro t cs w hN hs hr1
   have IH := Hi ih
   obtain ⟨op, name, cm, m, ks⟩ := t
   obtain ⟨A1, p1, rfl, -, hk1⟩ := hr1
   have HK1 := Hi hk1
   simp only [TreeI.size] at hN hs
   simp only [tcX]
   clear ih hk1
   go_enter Tryz.func111, Tryz.ntmps111
   go_wp2_with fail
   have HE0 : Hid ((w.alloc (.cells #[.int .i64 op, vs name, .int .i64 m, .slice A1 ks.length p1] 28 (0, 0))).heap[w.heap.size]? = some (.cells #[.int .i64 op, vs name, .int .i64 m, .slice A1 ks.length p1] 28 (0, 0))) := Hi (new_at rfl)
   have HB0 : Hid (Below w.heap.size w (w.alloc (.cells #[.int .i64 op, vs name, .int .i64 m, .slice A1 ks.length p1] 28 (0, 0)))) := Hi ((Below.refl _ _).alloc (lR _) _)
   generalize (w.alloc (.cells #[.int .i64 op, vs name, .int .i64 m, .slice A1 ks.length p1] 28 (0, 0))) = w0 at *
   go_loopw [3, 4] (fun v3 v4 wr => ∃ k : Nat, k ≤ ks.length ∧ v4 = .int .i64 k ∧ v3 = .int .i64 (deepsI (ks.take k)) ∧ Below w0.heap.size w0 wr) (fun v3 v4 _ => ks.length - (intOf v4).toNat)
   case atStart => exact ⟨0, Nat.zero_le _, rfl, rfl, Below.refl _ _⟩
   case round =>
    obtain ⟨k, hkl, rfl, rfl, hb⟩ := hrel
    have hsz := sizesI_take (ks := ks) k
    have hdz := deepsI_le (ks.take k)
    have hln := kidsI_le ks
    have e1 : wr.heap[w.heap.size]? = some (.cells #[.int .i64 op, vs name, .int .i64 m, .slice A1 ks.length p1] 28 (0, 0)) := (hb.block _ (lHp HE0.out)).trans HE0.out
    have c4 : wr.cell? ⟨w.heap.size, 3, none⟩ = some (.slice A1 ks.length p1) := cOb (o := 3) e1 rfl
    have l1 := lHp e1
    have HB := Hi hb
    have HBW := Hi (HB0.out.trans (hb.mono HB0.out.size))
    clear hb e1
    by_cases hlt : k < ks.length
    · obtain ⟨t, ht⟩ := gLt hlt
      have HDT := Hi (deepsI_one ht)
      have hst2 := memI_size ht
      have hst3 := sizesI_take (ks := ks) (k + 1)
      have hdt := deepI_le t
      have hne : ks ≠ [] := by rintro rfl; simp at hlt
      obtain ⟨b, off, rfl, hbs, hkd⟩ := HK1.out.resolve_left hne
      obtain ⟨cs, hcs, hrt⟩ := hkd.get ht
      have HRTK := Hi hrt
      obtain ⟨op', nm', cm', m', ks'⟩ := t
      obtain ⟨A', cap', rfl, -, -⟩ := hrt
      have hbw : b < wr.heap.size := Nat.lt_of_lt_of_le hbs HBW.out.size
      have e0 : wr.cell? ⟨b, off + k * 4, none⟩ = some (.int .i64 op') := (HBW.out.cell (p := ⟨b, off + k * 4, none⟩) hbs).trans (hcs 0 _ rfl)
      have e1 : wr.cell? ⟨b, off + k * 4 + 1, none⟩ = some (vs nm') := (HBW.out.cell (p := ⟨b, off + k * 4 + 1, none⟩) hbs).trans (hcs 1 _ rfl)
      have e2 : wr.cell? ⟨b, off + k * 4 + 2, none⟩ = some (.int .i64 m') := (HBW.out.cell (p := ⟨b, off + k * 4 + 2, none⟩) hbs).trans (hcs 2 _ rfl)
      have e3 : wr.cell? ⟨b, off + k * 4 + 3, none⟩ = some (.slice A' ks'.length cap') := (HBW.out.cell (p := ⟨b, off + k * 4 + 3, none⟩) hbs).trans (hcs 3 _ rfl)
      have hk1 : (k : Int) < ks.length := by omega
      have hwk := wrap64_up (k := k) (by omega)
      have HWK := Hi hwk
      clear ht hkd hcs hwk hsz hdz hln
      go_wp2_with fail
      refine (IH.out (.mk op' nm' cm' m' ks') (tcX false op' nm' cm' m' (.slice A' ks'.length cap')) _ (by omega) (by omega) (HRTK.out.keep HBW.out)).mono ?_
      rintro e w3 ⟨rfl, hb3⟩
      have HB3 := Hi hb3
      clear hb3 hst2 hst3 hdt c4
      go_wp2_with fail
      rw [HWK.out]
      exact ⟨⟨k + 1, hlt, rfl, by first | exact deepI_max HDT.out | exact deepI_mx HDT.out, HB.out.trans (HB3.out.mono HB.out.size)⟩, Nat.sub_lt_sub_left hlt (Nat.lt_succ_self k)⟩
    · have : k = ks.length := by omega
      subst this
      simp only [List.take_length]
      have hdk := deepsI_le ks
      simp only [List.take_length] at hdz hsz
      have hk1 : ¬ ((ks.length : Nat) : Int) < ks.length := by omega
      go_wp2_with fail
      go_ret
      exact ⟨by rw [TreeI.deep]; simp, HBW.out⟩
end Go.Proofs.YtbicmjmcdnkjhaaGreatDoor
set_option maxRecDepth 20000
set_option maxHeartbeats 4000000
namespace Go.Proofs.YtbicmjmcdnkjhaaGreatDoor
open Go.RowKit
theorem rstart_x : ∀ (N : Nat) (t : TreeI) (cs : List Value) (w : World), t.size ≤ N → t.size ≤ 1000000 → RdX false w cs t →
 Calls Tryz.prog 112 #[.agg cs.toArray] w fun e w' => e = .returned (.bool (startR t)) ∧ Below w.heap.size w w' := by
 intro N
 induction N with
 | zero =>
   intro t cs w hN
   have := sizeI_pos t
   omega
 | succ N ih =>
   intro t cs w hN hs hr1
   have IH := Hi ih
   obtain ⟨op, name, cm, m, ks⟩ := t
   obtain ⟨A1, p1, rfl, -, hk1⟩ := hr1
   have HK1 := Hi hk1
   simp only [TreeI.size] at hN hs
   simp only [tcX]
   clear ih hk1
   go_enter Tryz.func112, Tryz.ntmps112
   have HE0 : Hid ((w.alloc (.cells #[.int .i64 op, vs name, .int .i64 m, .slice A1 ks.length p1] 28 (0, 0))).heap[w.heap.size]? = some (.cells #[.int .i64 op, vs name, .int .i64 m, .slice A1 ks.length p1] 28 (0, 0))) := Hi (new_at rfl)
   have HB0 : Hid (Below w.heap.size w (w.alloc (.cells #[.int .i64 op, vs name, .int .i64 m, .slice A1 ks.length p1] 28 (0, 0)))) := Hi ((Below.refl _ _).alloc (lR _) _)
   go_upto_region 1 with fail
   go_cut [1, 2, 3] from 0 (fun s1 s2 s3 wc => s1 = .pointer (some ⟨w.heap.size, 0, none⟩) ∧ s2 = .bool false ∧ s3 = .bool (decide (4 ≤ op) && decide (op ≤ 7)) ∧ w.alloc (.cells #[.int .i64 op, vs name, .int .i64 m, .slice A1 ks.length p1] 28 (0, 0)) = wc)
   case first =>
    go_wp2_with fail
    all_goals
     go_meet
     case rel =>
      refine ⟨rfl, rfl, congrArg Value.bool ?_, rfl⟩
      rw [Bool.eq_iff_iff]
      simp
      try omega
   case rest =>
   obtain ⟨rfl, rfl, rfl, rfl⟩ := hcut
   generalize (w.alloc (.cells #[.int .i64 op, vs name, .int .i64 m, .slice A1 ks.length p1] 28 (0, 0))) = wc at *
   obtain ⟨nm, hnm⟩ : ∃ x, (decide (4 ≤ op) && decide (op ≤ 7)) = x := ⟨_, rfl⟩
   rw [hnm]
   have e1 := HE0.out
   have z0 : wc.cell? ⟨w.heap.size, 0, none⟩ = some (.int .i64 op) := cOb (o := 0) e1 rfl
   have z1 : wc.cell? ⟨w.heap.size, 1, none⟩ = some (vs name) := cOb (o := 1) e1 rfl
   have z2 : wc.cell? ⟨w.heap.size, 2, none⟩ = some (.int .i64 m) := cOb (o := 2) e1 rfl
   have z3 : wc.cell? ⟨w.heap.size, 3, none⟩ = some (.slice A1 ks.length p1) := cOb (o := 3) e1 rfl
   have HNM := Hi hnm
   clear e1 hnm
   go_upto_region 2 with fail
   go_cut [1, 2, 3, 4] from 0 (fun s1 s2 s3 s4 wd => wc = wd ∧ s1 = .pointer (some ⟨w.heap.size, 0, none⟩) ∧ s2 = .bool false ∧ s3 = .bool nm ∧ s4 = .bool (op == 8 || op == 9))
   case first =>
    go_wp2_with fail
    all_goals
     go_meet
     case rel =>
      refine ⟨rfl, rfl, rfl, rfl, congrArg Value.bool ?_⟩
      rw [Bool.eq_iff_iff]
      try (first | (simp [*]; done) | (simp [*]; omega) | (simp; omega) | omega)
   case rest =>
   obtain ⟨rfl, rfl, rfl, rfl, rfl⟩ := hcut
   obtain ⟨mn, hmn⟩ : ∃ x, (op == 8 || op == 9) = x := ⟨_, rfl⟩
   rw [hmn]
   have HMN := Hi hmn
   clear hmn
   obtain ⟨bad, hbad⟩ : ∃ x, (decide (op < 1) || decide (9 < op) || !nm && name != [] || op != 3 && m != 0 || decide (m < 0) || decide (1000000 < m) || mn && decide (ks.length < 2) || !mn && decide (0 < ks.length)) = x := ⟨_, rfl⟩
   have HBAD := Hi hbad
   clear hbad
   go_upto_region 3 with fail
   go_cut [1, 2, 77] from 0 (fun s1 s2 s77 wd => wc = wd ∧ s1 = .pointer (some ⟨w.heap.size, 0, none⟩) ∧ s2 = .bool false ∧ s77 = .bool bad)
   case first =>
    cases nm <;> cases mn
    all_goals
     go_wp2_with fail
     all_goals
      go_meet
      case rel =>
       refine ⟨rfl, rfl, rfl, congrArg Value.bool ?_⟩
       rw [← HBAD.out, Bool.eq_iff_iff]
       try (first | (simp [*]; done) | (simp [*]; omega) | (simp; omega) | omega)
   case rest =>
   obtain ⟨rfl, rfl, rfl, rfl⟩ := hcut
   have HSR : Hid (startR (.mk op name cm m ks) = (!bad && startsR ks)) := Hi (by rw [startR, HNM.out, HMN.out, HBAD.out])
   clear z0 z1 z2 z3
   cases bad with
   | true =>
     go_wp2_with fail
     go_ret
     exact ⟨by rw [HSR.out]; rfl, HB0.out⟩
   | false =>
   go_wp2_with fail
   go_loopw [5] (fun v5 wr => ∃ k : Nat, k ≤ ks.length ∧ v5 = .int .i64 k ∧ startsR ks = startsR (ks.drop k) ∧ Below wc.heap.size wc wr) (fun v5 _ => ks.length - (intOf v5).toNat)
   case atStart => exact ⟨0, Nat.zero_le _, rfl, rfl, Below.refl _ _⟩
   case round =>
    obtain ⟨k, hkl, rfl, heq, hb⟩ := hrel
    have hln := kidsI_le ks
    have e1 : wr.heap[w.heap.size]? = some (.cells #[.int .i64 op, vs name, .int .i64 m, .slice A1 ks.length p1] 28 (0, 0)) := (hb.block _ (lHp HE0.out)).trans HE0.out
    have c3 : wr.cell? ⟨w.heap.size, 3, none⟩ = some (.slice A1 ks.length p1) := cOb (o := 3) e1 rfl
    have l1 := lHp e1
    have HB := Hi hb
    have HBW := Hi (HB0.out.trans (hb.mono HB0.out.size))
    have HEQ := Hi heq
    clear hb e1 heq
    by_cases hlt : k < ks.length
    · obtain ⟨t, ht⟩ := gLt hlt
      have hst2 := memI_size ht
      have hne : ks ≠ [] := by rintro rfl; simp at hlt
      have hdr : startsR (ks.drop k) = (startR t && startsR (ks.drop (k + 1))) := by
       obtain ⟨h1, rfl⟩ := List.getElem?_eq_some_iff.1 ht
       rw [List.drop_eq_getElem_cons h1, startsR]
      have HDR := Hi (HEQ.out.trans hdr)
      obtain ⟨b, off, rfl, hbs, hkd⟩ := HK1.out.resolve_left hne
      obtain ⟨cs, hcs, hrt⟩ := hkd.get ht
      have HRTK := Hi hrt
      obtain ⟨op', nm', cm', m', ks'⟩ := t
      obtain ⟨A', cap', rfl, -, -⟩ := hrt
      obtain ⟨sr, hsr⟩ : ∃ x, startR (.mk op' nm' cm' m' ks') = x := ⟨_, rfl⟩
      have HSX := Hi hsr
      have hbw : b < wr.heap.size := Nat.lt_of_lt_of_le hbs HBW.out.size
      have e0 : wr.cell? ⟨b, off + k * 4, none⟩ = some (.int .i64 op') := (HBW.out.cell (p := ⟨b, off + k * 4, none⟩) hbs).trans (hcs 0 _ rfl)
      have e1 : wr.cell? ⟨b, off + k * 4 + 1, none⟩ = some (vs nm') := (HBW.out.cell (p := ⟨b, off + k * 4 + 1, none⟩) hbs).trans (hcs 1 _ rfl)
      have e2 : wr.cell? ⟨b, off + k * 4 + 2, none⟩ = some (.int .i64 m') := (HBW.out.cell (p := ⟨b, off + k * 4 + 2, none⟩) hbs).trans (hcs 2 _ rfl)
      have e3 : wr.cell? ⟨b, off + k * 4 + 3, none⟩ = some (.slice A' ks'.length cap') := (HBW.out.cell (p := ⟨b, off + k * 4 + 3, none⟩) hbs).trans (hcs 3 _ rfl)
      have hk1 : (k : Int) < ks.length := by omega
      have hwk := wrap64_up (k := k) (by omega)
      have HWK := Hi hwk
      clear ht hkd hcs hwk hln hdr hsr
      go_wp2_with fail
      refine (IH.out (.mk op' nm' cm' m' ks') (tcX false op' nm' cm' m' (.slice A' ks'.length cap')) _ (by omega) (by omega) (HRTK.out.keep HBW.out)).mono ?_
      rintro e w3 ⟨rfl, hb3⟩
      rw [HSX.out]
      have HB3 := Hi hb3
      have hbw3 := HBW.out.trans (hb3.mono HBW.out.size)
      have HBW3 := Hi hbw3
      clear hb3 hbw3 hst2 c3
      cases sr with
      | false =>
        go_wp2_with fail
        go_ret
        exact ⟨by rw [HSR.out, HDR.out, HSX.out]; rfl, HBW3.out⟩
      | true =>
        go_wp2_with fail
        rw [HWK.out]
        exact ⟨⟨k + 1, hlt, rfl, by rw [HDR.out, HSX.out]; rfl, HB.out.trans (HB3.out.mono HB.out.size)⟩, Nat.sub_lt_sub_left hlt (Nat.lt_succ_self k)⟩
    · have : k = ks.length := by omega
      subst this
      have hk1 : ¬ ((ks.length : Nat) : Int) < ks.length := by omega
      go_wp2_with fail
      go_ret
      exact ⟨by rw [HSR.out, HEQ.out, List.drop_length]; simp [startsR], HBW.out⟩
end Go.Proofs.YtbicmjmcdnkjhaaGreatDoor
set_option maxRecDepth 20000
set_option maxHeartbeats 4000000
namespace Go.Proofs.YtbicmjmcdnkjhaaGreatDoor
open Go.RowKit
theorem rform_x : ∀ (N : Nat) (t : TreeI) (cs : List Value) (w : World), t.size ≤ N → t.size ≤ 1000000 → RdX true w cs t →
 Calls Tryz.prog 110 #[.agg cs.toArray] w fun e w' => e = .returned (.bool (formR t)) ∧ Below w.heap.size w w' := by
 intro N
 induction N with
 | zero =>
   intro t cs w hN
   have := sizeI_pos t
   omega
 | succ N ih =>
   intro t cs w hN hs hr1
   have IH := Hi ih
   obtain ⟨op, name, cm, m, ks⟩ := t
   obtain ⟨A1, p1, rfl, -, hk1⟩ := hr1
   have HK1 := Hi hk1
   simp only [TreeI.size] at hN hs
   simp only [tcX]
   clear ih hk1
   go_enter Tryz.func110, Tryz.ntmps110
   have HE0 : Hid ((w.alloc (.cells #[.int .i64 op, vs name, .int .i64 cm, .int .i64 m, .slice A1 ks.length p1] 24 (0, 0))).heap[w.heap.size]? = some (.cells #[.int .i64 op, vs name, .int .i64 cm, .int .i64 m, .slice A1 ks.length p1] 24 (0, 0))) := Hi (new_at rfl)
   have HB0 : Hid (Below w.heap.size w (w.alloc (.cells #[.int .i64 op, vs name, .int .i64 cm, .int .i64 m, .slice A1 ks.length p1] 24 (0, 0)))) := Hi ((Below.refl _ _).alloc (lR _) _)
   go_upto_region 1 with fail
   generalize (w.alloc (.cells #[.int .i64 op, vs name, .int .i64 cm, .int .i64 m, .slice A1 ks.length p1] 24 (0, 0))) = wc at *
   have e1 := HE0.out
   have z0 : wc.cell? ⟨w.heap.size, 0, none⟩ = some (.int .i64 op) := cOb (o := 0) e1 rfl
   have z1 : wc.cell? ⟨w.heap.size, 1, none⟩ = some (vs name) := cOb (o := 1) e1 rfl
   have z2 : wc.cell? ⟨w.heap.size, 2, none⟩ = some (.int .i64 cm) := cOb (o := 2) e1 rfl
   have z3 : wc.cell? ⟨w.heap.size, 3, none⟩ = some (.int .i64 m) := cOb (o := 3) e1 rfl
   have z4 : wc.cell? ⟨w.heap.size, 4, none⟩ = some (.slice A1 ks.length p1) := cOb (o := 4) e1 rfl
   clear e1
   go_cut [1, 2, 3] from 0 (fun s1 s2 s3 wd => wc = wd ∧ s1 = .pointer (some ⟨w.heap.size, 0, none⟩) ∧ s2 = .bool false ∧ s3 = .bool (op == 3 || op == 4))
   case first =>
    go_wp2_with fail
    all_goals
     go_meet
     case rel =>
      refine ⟨rfl, rfl, rfl, congrArg Value.bool ?_⟩
      rw [Bool.eq_iff_iff]
      try (first | (simp [testI, *]; done) | (simp [testI, *]; omega) | (simp [testI]; omega) | omega)
   case rest =>
   obtain ⟨rfl, rfl, rfl, rfl⟩ := hcut
   obtain ⟨nm, hnm⟩ : ∃ x, (op == 3 || op == 4) = x := ⟨_, rfl⟩
   rw [hnm]
   have HNM := Hi hnm
   clear hnm
   go_upto_region 2 with fail
   go_cut [1, 2, 3, 4] from 0 (fun s1 s2 s3 s4 wd => wc = wd ∧ s1 = .pointer (some ⟨w.heap.size, 0, none⟩) ∧ s2 = .bool false ∧ s3 = .bool nm ∧ s4 = .bool (testI op cm m || (op != 3 && cm == 0 && m == 0)))
   case first =>
    go_wp2_with fail
    all_goals
     go_meet
     case rel =>
      refine ⟨rfl, rfl, rfl, rfl, congrArg Value.bool ?_⟩
      rw [Bool.eq_iff_iff]
      try (first | (simp [testI, *]; done) | (simp [testI, *]; omega) | (simp [testI]; omega) | omega)
   case rest =>
   obtain ⟨rfl, rfl, rfl, rfl, rfl⟩ := hcut
   obtain ⟨te, hte⟩ : ∃ x, (testI op cm m || (op != 3 && cm == 0 && m == 0)) = x := ⟨_, rfl⟩
   rw [hte]
   have HTE := Hi hte
   clear hte
   go_upto_region 3 with fail
   go_cut [1, 2, 3, 4, 5] from 0 (fun s1 s2 s3 s4 s5 wd => wc = wd ∧ s1 = .pointer (some ⟨w.heap.size, 0, none⟩) ∧ s2 = .bool false ∧ s3 = .bool nm ∧ s4 = .bool te ∧ s5 = .bool (op == 5 && ks.length == 1 || (op == 6 || op == 7) && decide (2 ≤ ks.length) || decide (op < 5) && ks.length == 0))
   case first =>
    go_wp2_with fail
    all_goals
     go_meet
     case rel =>
      refine ⟨rfl, rfl, rfl, rfl, rfl, congrArg Value.bool ?_⟩
      rw [Bool.eq_iff_iff]
      try (first | (simp [testI, *]; done) | (simp [testI, *]; omega) | (simp [testI]; omega) | omega)
   case rest =>
   obtain ⟨rfl, rfl, rfl, rfl, rfl, rfl⟩ := hcut
   obtain ⟨kd, hkd⟩ : ∃ x, (op == 5 && ks.length == 1 || (op == 6 || op == 7) && decide (2 ≤ ks.length) || decide (op < 5) && ks.length == 0) = x := ⟨_, rfl⟩
   rw [hkd]
   have HKD := Hi hkd
   clear hkd
   obtain ⟨bad, hbad⟩ : ∃ x, (decide (op < 1) || decide (7 < op) || !te || !kd || (!nm && name != [])) = x := ⟨_, rfl⟩
   have HBAD := Hi hbad
   clear hbad
   go_upto_region 4 with fail
   go_cut [1, 2, 113] from 0 (fun s1 s2 s77 wd => wc = wd ∧ s1 = .pointer (some ⟨w.heap.size, 0, none⟩) ∧ s2 = .bool false ∧ s77 = .bool bad)
   case first =>
    cases nm <;> cases te <;> cases kd
    all_goals as_aux_lemma =>
     go_wp2_with fail
     all_goals
      go_meet
      case rel =>
       refine ⟨rfl, rfl, rfl, congrArg Value.bool ?_⟩
       rw [← HBAD.out, Bool.eq_iff_iff]
       first | (simp [*]; done) | (simp [*]; omega) | (simp; omega) | omega
   case rest =>
   obtain ⟨rfl, rfl, rfl, rfl⟩ := hcut
   have HSR : Hid (formR (.mk op name cm m ks) = (!bad && formsR ks)) := Hi (by rw [formR, HNM.out, HTE.out, HKD.out, HBAD.out])
   clear z0 z1 z2 z3 z4
   cases bad with
   | true =>
     go_wp2_with fail
     go_ret
     exact ⟨by rw [HSR.out]; rfl, HB0.out⟩
   | false =>
   go_wp2_with fail
   go_loopw [6] (fun v5 wr => ∃ k : Nat, k ≤ ks.length ∧ v5 = .int .i64 k ∧ formsR ks = formsR (ks.drop k) ∧ Below wc.heap.size wc wr) (fun v5 _ => ks.length - (intOf v5).toNat)
   case atStart => exact ⟨0, Nat.zero_le _, rfl, rfl, Below.refl _ _⟩
   case round =>
    obtain ⟨k, hkl, rfl, heq, hb⟩ := hrel
    have hln := kidsI_le ks
    have e1 : wr.heap[w.heap.size]? = some (.cells #[.int .i64 op, vs name, .int .i64 cm, .int .i64 m, .slice A1 ks.length p1] 24 (0, 0)) := (hb.block _ (lHp HE0.out)).trans HE0.out
    have c3 : wr.cell? ⟨w.heap.size, 4, none⟩ = some (.slice A1 ks.length p1) := cOb (o := 4) e1 rfl
    have l1 := lHp e1
    have HB := Hi hb
    have HBW := Hi (HB0.out.trans (hb.mono HB0.out.size))
    have HEQ := Hi heq
    clear hb e1 heq
    by_cases hlt : k < ks.length
    · obtain ⟨t, ht⟩ := gLt hlt
      have hst2 := memI_size ht
      have hne : ks ≠ [] := by rintro rfl; simp at hlt
      have hdr : formsR (ks.drop k) = (formR t && formsR (ks.drop (k + 1))) := by
       obtain ⟨h1, rfl⟩ := List.getElem?_eq_some_iff.1 ht
       rw [List.drop_eq_getElem_cons h1, formsR]
      have HDR := Hi (HEQ.out.trans hdr)
      obtain ⟨b, off, rfl, hbs, hkd⟩ := HK1.out.resolve_left hne
      obtain ⟨cs, hcs, hrt⟩ := hkd.get ht
      have HRTK := Hi hrt
      obtain ⟨op', nm', cm', m', ks'⟩ := t
      obtain ⟨A', cap', rfl, -, -⟩ := hrt
      obtain ⟨sr, hsr⟩ : ∃ x, formR (.mk op' nm' cm' m' ks') = x := ⟨_, rfl⟩
      have HSX := Hi hsr
      have hbw : b < wr.heap.size := Nat.lt_of_lt_of_le hbs HBW.out.size
      have e0 : wr.cell? ⟨b, off + k * 5, none⟩ = some (.int .i64 op') := (HBW.out.cell (p := ⟨b, off + k * 5, none⟩) hbs).trans (hcs 0 _ rfl)
      have e1 : wr.cell? ⟨b, off + k * 5 + 1, none⟩ = some (vs nm') := (HBW.out.cell (p := ⟨b, off + k * 5 + 1, none⟩) hbs).trans (hcs 1 _ rfl)
      have e2 : wr.cell? ⟨b, off + k * 5 + 2, none⟩ = some (.int .i64 cm') := (HBW.out.cell (p := ⟨b, off + k * 5 + 2, none⟩) hbs).trans (hcs 2 _ rfl)
      have e3 : wr.cell? ⟨b, off + k * 5 + 3, none⟩ = some (.int .i64 m') := (HBW.out.cell (p := ⟨b, off + k * 5 + 3, none⟩) hbs).trans (hcs 3 _ rfl)
      have e4 : wr.cell? ⟨b, off + k * 5 + 4, none⟩ = some (.slice A' ks'.length cap') := (HBW.out.cell (p := ⟨b, off + k * 5 + 4, none⟩) hbs).trans (hcs 4 _ rfl)
      have hk1 : (k : Int) < ks.length := by omega
      have hwk := wrap64_up (k := k) (by omega)
      have HWK := Hi hwk
      clear ht hkd hcs hwk hln hdr hsr
      go_wp2_with fail
      refine (IH.out (.mk op' nm' cm' m' ks') (tcX true op' nm' cm' m' (.slice A' ks'.length cap')) _ (by omega) (by omega) (HRTK.out.keep HBW.out)).mono ?_
      rintro e w3 ⟨rfl, hb3⟩
      rw [HSX.out]
      have HB3 := Hi hb3
      have hbw3 := HBW.out.trans (hb3.mono HBW.out.size)
      have HBW3 := Hi hbw3
      clear hb3 hbw3 hst2 c3
      cases sr with
      | false =>
        go_wp2_with fail
        go_ret
        exact ⟨by rw [HSR.out, HDR.out, HSX.out]; rfl, HBW3.out⟩
      | true =>
        go_wp2_with fail
        rw [HWK.out]
        exact ⟨⟨k + 1, hlt, rfl, by rw [HDR.out, HSX.out]; rfl, HB.out.trans (HB3.out.mono HB.out.size)⟩, Nat.sub_lt_sub_left hlt (Nat.lt_succ_self k)⟩
    · have : k = ks.length := by omega
      subst this
      have hk1 : ¬ ((ks.length : Nat) : Int) < ks.length := by omega
      go_wp2_with fail
      go_ret
      exact ⟨by rw [HSR.out, HEQ.out, List.drop_length]; simp [formsR], HBW.out⟩
end Go.Proofs.YtbicmjmcdnkjhaaGreatDoor
set_option maxRecDepth 20000
set_option maxHeartbeats 4000000
namespace Go.Proofs.YtbicmjmcdnkjhaaGreatDoor
open Go.RowKit
theorem rFormula_any (t : TreeI) (cs : List Value) (w : World) (hs : t.size ≤ 1000000) (hr : RdX true w cs t) :
 Calls Tryz.prog 72 #[.agg cs.toArray] w fun e w' => e = .returned (.bool (FormulaR t)) ∧ Below w.heap.size w w' := by
 obtain ⟨c, hc⟩ : ∃ x, decide (cntI t 200 ≤ 200) = x := ⟨_, rfl⟩
 obtain ⟨d, hd⟩ : ∃ x, t.deep = x := ⟨_, rfl⟩
 obtain ⟨b, hb⟩ : ∃ x, formR t = x := ⟨_, rfl⟩
 have hres : FormulaR t = (c && decide (d ≤ 20) && b) := by unfold FormulaR; rw [hc, hd, hb]
 rw [hres]
 obtain ⟨rs, hrs⟩ : ∃ x, (c && decide (d ≤ 20) && b) = x := ⟨_, rfl⟩
 rw [hrs]
 have HRS := Hi hrs
 have hnodes := fun wx hx => small_f t cs 200 wx (by omega) (by omega) (hr.keep hx)
 have hdep := fun wx hx => size_x t.size t cs wx (lR _) hs (hr.keep hx)
 have hst := fun wx hx => rform_x t.size t cs wx (lR _) hs (hr.keep hx)
 rw [hc] at hnodes
 rw [hd] at hdep
 rw [hb] at hst
 obtain ⟨sz, hsz⟩ : ∃ x, t.size = x := ⟨_, rfl⟩
 rw [hsz] at hdep
 have HN := Hi hnodes
 have HE := Hi hdep
 have HS := Hi hst
 clear hc hd hb hres hrs hnodes hdep hst hsz
 obtain ⟨op, name, cm, m, ks⟩ := t
 obtain ⟨A1, p1, rfl, -, -⟩ := hr
 simp only [tcX] at HN HE HS ⊢
 go_enter Tryz.func72, Tryz.ntmps72
 go_wp2_with fail
 refine (HN.out _ ((Below.refl _ _).alloc (lR _) _)).mono ?_
 rintro e w1 ⟨rfl, hb1⟩
 have HB1 := Hi (((Below.refl w.heap.size w).alloc (lR _) _).trans (hb1.mono (by simp)))
 have e1 : w1.heap[w.heap.size]? = some (.cells #[.int .i64 op, vs name, .int .i64 cm, .int .i64 m, .slice A1 ks.length p1] 24 (0, 0)) := (hb1.block _ (by simp)).trans (new_at rfl)
 have z0 : w1.cell? ⟨w.heap.size, 0, none⟩ = some (.int .i64 op) := cOb (o := 0) e1 rfl
 have z1 : w1.cell? ⟨w.heap.size, 1, none⟩ = some (vs name) := cOb (o := 1) e1 rfl
 have z2 : w1.cell? ⟨w.heap.size, 2, none⟩ = some (.int .i64 cm) := cOb (o := 2) e1 rfl
 have z3 : w1.cell? ⟨w.heap.size, 3, none⟩ = some (.int .i64 m) := cOb (o := 3) e1 rfl
 have z4 : w1.cell? ⟨w.heap.size, 4, none⟩ = some (.slice A1 ks.length p1) := cOb (o := 4) e1 rfl
 have l1 := lHp e1
 have HE1 := Hi e1
 clear hb1 e1
 cases c with
 | true =>
   go_wp2_with fail
   refine (HE.out _ HB1.out).mono ?_
   rintro e w2 ⟨rfl, hb2⟩
   have HB2 := Hi (HB1.out.trans (hb2.mono HB1.out.size))
   have e1 : w2.heap[w.heap.size]? = some (.cells #[.int .i64 op, vs name, .int .i64 cm, .int .i64 m, .slice A1 ks.length p1] 24 (0, 0)) := (hb2.block _ l1).trans HE1.out
   clear z0 z1 z2 z3 z4 l1
   have z0 : w2.cell? ⟨w.heap.size, 0, none⟩ = some (.int .i64 op) := cOb (o := 0) e1 rfl
   have z1 : w2.cell? ⟨w.heap.size, 1, none⟩ = some (vs name) := cOb (o := 1) e1 rfl
   have z2 : w2.cell? ⟨w.heap.size, 2, none⟩ = some (.int .i64 cm) := cOb (o := 2) e1 rfl
   have z3 : w2.cell? ⟨w.heap.size, 3, none⟩ = some (.int .i64 m) := cOb (o := 3) e1 rfl
   have z4 : w2.cell? ⟨w.heap.size, 4, none⟩ = some (.slice A1 ks.length p1) := cOb (o := 4) e1 rfl
   have l1 := lHp e1
   clear hb2 e1
   by_cases hd : d ≤ 20
   · have hd1 : (d : Int) ≤ 20 := by omega
     go_wp2_with fail
     refine (HS.out _ HB2.out).mono ?_
     rintro e w3 ⟨rfl, hb3⟩
     have HB3 := Hi (HB2.out.trans (hb3.mono HB2.out.size))
     clear hb3
     go_wp2_with fail
     go_ret
     exact ⟨by rw [← HRS.out]; simp [hd], HB3.out⟩
   · have hd1 : ¬ (d : Int) ≤ 20 := by omega
     go_wp2_with fail
     go_ret
     exact ⟨by rw [← HRS.out]; simp [hd], HB2.out⟩
 | false =>
   go_wp2_with fail
   go_ret
   exact ⟨by rw [← HRS.out]; rfl, HB1.out⟩
end Go.Proofs.YtbicmjmcdnkjhaaGreatDoor
set_option maxRecDepth 20000
set_option maxHeartbeats 4000000
namespace Go.Proofs.YtbicmjmcdnkjhaaGreatDoor
open Go.RowKit
theorem rStart_any (t : TreeI) (cs : List Value) (w : World) (hs : t.size ≤ 1000000) (hr : RdX false w cs t) :
 Calls Tryz.prog 73 #[.agg cs.toArray] w fun e w' => e = .returned (.bool (StartR t)) ∧ Below w.heap.size w w' := by
 have HR := Hi hr
 obtain ⟨c, hc⟩ : ∃ x, cntI t 200 = x := ⟨_, rfl⟩
 obtain ⟨d, hd⟩ : ∃ x, t.deep = x := ⟨_, rfl⟩
 obtain ⟨b, hb⟩ : ∃ x, startR t = x := ⟨_, rfl⟩
 have hres : StartR t = (decide (c ≤ 200) && decide (d ≤ 20) && b) := by unfold StartR; rw [hc, hd, hb]
 rw [hres]
 obtain ⟨rs, hrs⟩ : ∃ x, (decide (c ≤ 200) && decide (d ≤ 20) && b) = x := ⟨_, rfl⟩
 rw [hrs]
 have HRS := Hi hrs
 have HC := Hi hc
 have HD := Hi hd
 have HB := Hi hb
 have hnodes := fun wx hx => nodes_s t.size t cs 200 wx (lR _) (by omega) (by omega) (hr.keep hx)
 have hdep := fun wx hx => depth_x t.size t cs wx (lR _) hs (hr.keep hx)
 have hst := fun wx hx => rstart_x t.size t cs wx (lR _) hs (hr.keep hx)
 rw [hc] at hnodes
 rw [hd] at hdep
 rw [hb] at hst
 have HN := Hi hnodes
 have HE := Hi hdep
 have HS := Hi hst
 clear hc hd hb hres hrs hnodes hdep hst
 obtain ⟨op, name, cm, m, ks⟩ := t
 obtain ⟨A1, p1, rfl, -, -⟩ := hr
 simp only [tcX] at HN HE HS ⊢
 clear HR
 go_enter Tryz.func73, Tryz.ntmps73
 go_wp2_with fail
 refine (HN.out _ ((Below.refl _ _).alloc (lR _) _)).mono ?_
 rintro e w1 ⟨rfl, hb1⟩
 have HB1 := Hi (((Below.refl w.heap.size w).alloc (lR _) _).trans (hb1.mono (by simp)))
 have e1 : w1.heap[w.heap.size]? = some (.cells #[.int .i64 op, vs name, .int .i64 m, .slice A1 ks.length p1] 28 (0, 0)) := (hb1.block _ (by simp)).trans (new_at rfl)
 have z0 : w1.cell? ⟨w.heap.size, 0, none⟩ = some (.int .i64 op) := cOb (o := 0) e1 rfl
 have z1 : w1.cell? ⟨w.heap.size, 1, none⟩ = some (vs name) := cOb (o := 1) e1 rfl
 have z2 : w1.cell? ⟨w.heap.size, 2, none⟩ = some (.int .i64 m) := cOb (o := 2) e1 rfl
 have z3 : w1.cell? ⟨w.heap.size, 3, none⟩ = some (.slice A1 ks.length p1) := cOb (o := 3) e1 rfl
 have l1 := lHp e1
 have HE1 := Hi e1
 clear hb1 e1
 by_cases hc : c ≤ 200
 · go_wp2_with fail
   refine (HE.out _ HB1.out).mono ?_
   rintro e w2 ⟨rfl, hb2⟩
   have HB2 := Hi (HB1.out.trans (hb2.mono HB1.out.size))
   have e1 : w2.heap[w.heap.size]? = some (.cells #[.int .i64 op, vs name, .int .i64 m, .slice A1 ks.length p1] 28 (0, 0)) := (hb2.block _ l1).trans HE1.out
   clear z0 z1 z2 z3 l1
   have z0 : w2.cell? ⟨w.heap.size, 0, none⟩ = some (.int .i64 op) := cOb (o := 0) e1 rfl
   have z1 : w2.cell? ⟨w.heap.size, 1, none⟩ = some (vs name) := cOb (o := 1) e1 rfl
   have z2 : w2.cell? ⟨w.heap.size, 2, none⟩ = some (.int .i64 m) := cOb (o := 2) e1 rfl
   have z3 : w2.cell? ⟨w.heap.size, 3, none⟩ = some (.slice A1 ks.length p1) := cOb (o := 3) e1 rfl
   have l1 := lHp e1
   clear hb2 e1
   by_cases hd : d ≤ 20
   · have hd1 : (d : Int) ≤ 20 := by omega
     go_wp2_with fail
     refine (HS.out _ HB2.out).mono ?_
     rintro e w3 ⟨rfl, hb3⟩
     have HB3 := Hi (HB2.out.trans (hb3.mono HB2.out.size))
     clear hb3
     go_wp2_with fail
     go_ret
     exact ⟨by rw [← HRS.out]; simp [hc, hd], HB3.out⟩
   · have hd1 : ¬ (d : Int) ≤ 20 := by omega
     go_wp2_with fail
     go_ret
     exact ⟨by rw [← HRS.out]; simp [hd], HB2.out⟩
 · go_wp2_with fail
   go_ret
   have h0 : rs = false := by rw [← HRS.out, decide_eq_false (by omega)]; rfl
   exact ⟨by rw [h0]; rfl, HB1.out⟩
end Go.Proofs.YtbicmjmcdnkjhaaGreatDoor
