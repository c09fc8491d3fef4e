/- Two sorted stretches of a row of clauses, merged: slices.symMergeCmpFunc. -/
import Derived.Shelf.SlSortCmp.KitK
import Derived.Sort.WalkB2
import Derived.Sort.WalkB12
import Derived.Deep.LoopGhost
import Derived.Lib.Hide
import Derived.Test.YtecnlfaholmpoaaGreatRows
import Derived.Test.YtecnlfaholmpoaaGreatJCS1
import Derived.Deep.CutRange
import Derived.Deep.DeepCutAuto
set_option linter.unusedVariables false
set_option linter.unusedSimpArgs false
set_option maxRecDepth 100000
set_option maxHeartbeats 4000000
namespace Go.Proofs.YtecnlfaholmpoaaGreat
open Go.Shelf Go.RowKit Go.Lib Go.Sort
attribute [local go_sem ↓ high] loadVar_foldS storeVar_foldS
theorem sym_left {α : Type} [Inhabited α] (enc : α → List Value) (blk off cap N : Nat) (d0 : Array α) (w0 : World) (R : RowK enc 20 w0 blk off d0) (hN : d0.size = N) (hsz : N ≤ 1000000) {cf : α → α → Int} {B : α → α → Prop} (tr : ∀ x y z, B x y → B y z → B x z) (g : Nat) (cb : Array Value) (eg : ∀ args w, (callFunc g args).run Tryz.prog w = .ok (.enter g args) w) (hcmp : CmpLays Tryz.prog g cb enc 20 cf blk off N w0) (p Y s : List α) (x : α) (a m b : Nat) (w : World) (hY : Y.Pairwise B) (c1 : ∀ y ∈ Y, cf y x < 0 → B y x) (c2 : ∀ y ∈ Y, 0 ≤ cf y x → B x y) (hl : N = p.length + 1 + Y.length + s.length) (ha : a = p.length) (hm : m = p.length + 1) (hb : b = p.length + 1 + Y.length)
 (S : SWK enc 20 w0 blk off (p ++ x :: (Y ++ s)).toArray w) :
 Calls Tryz.prog 115 #[.slice (some ⟨blk, off, none⟩) N cap, .int .i64 a, .int .i64 m, .int .i64 b, .func (.func g) #[] cb] w fun e w' => e = .returned (.tuple #[]) ∧ ∃ Z, Z.Perm (x :: Y) ∧ Z.Pairwise B ∧ SWK enc 20 w0 blk off (p ++ (Z ++ s)).toArray w' := by
 have HC : Aside _ := hcmp
 clear hcmp
 obtain ⟨dk, hdk⟩ : ∃ d, d = (p ++ x :: (Y ++ s)).toArray := ⟨_, rfl⟩
 have hds : dk.size = N := by rw [hdk, List.size_toArray, hl]; simp; omega
 have hxa : dk[a]! = x := by rw [hdk]; exact at_app _ _ _ _ ha
 have S0 : Aside (SWK enc 20 w0 blk off dk w) := by rw [hdk]; exact S
 have HDK := Lib.hid hdk; clear hdk S
 have HXA := Lib.hid hxa; clear hxa
 have hma : m = a + 1 := by omega
 have hbN : b ≤ N := by omega
 have hmb : m ≤ b := by omega
 have s1 : IntKind.i64.wrap ((m : Int) - (a : Int)) = 1 := by rw [IntKind.wrap_i64]; omega
 have HL := Lib.hid hl; clear hl
 have HA := Lib.hid ha; clear ha
 have HM := Lib.hid hm; clear hm
 have HB := Lib.hid hb; clear hb
 have HMA := Lib.hid hma; clear hma
 go_enter Tryz.func115, Tryz.ntmps115
 have mixed : Tryz.prog.follows .mixedOrders = true := by kernel_rfl
 go_wp2_with fail
 go_loopw [10, 11] (fun v10 v11 wr => ∃ i j : Nat, v10 = .int .i64 i ∧ v11 = .int .i64 j ∧ m ≤ i ∧ i ≤ j ∧ j ≤ b ∧ Hid (i = m ∨ cf dk[i - 1]! x < 0) ∧ Hid (j = b ∨ 0 ≤ cf dk[j]! x) ∧ Aside (SWK enc 20 w0 blk off dk wr)) (fun v10 v11 _ => (intOf v11).toNat - (intOf v10).toNat)
 case atStart => exact ⟨m, b, rfl, rfl, Nat.le_refl _, hmb, Nat.le_refl _, Lib.hid (Or.inl rfl), Lib.hid (Or.inl rfl), S0⟩
 case round =>
  clear S0 s1
  obtain ⟨i, j, rfl, rfl, hmi, hij, hjb, L, U, S1⟩ := hrel
  by_cases hlt : i < j
  · have hltz : (i : Int) < (j : Int) := by omega
    have haN : a < N := by have := HMA.out; omega
    obtain ⟨h, hh⟩ : ∃ h, h = (i + j) / 2 := ⟨_, rfl⟩
    have hz : ((i : Int) + (j : Int)) / 2 = (h : Int) := by omega
    have hw1 : IntKind.i64.wrap ((i : Int) + (j : Int)) = (i : Int) + (j : Int) := by rw [IntKind.wrap_i64]; omega
    have hw2 : IntKind.u64.wrap ((i : Int) + (j : Int)) = (i : Int) + (j : Int) := by rw [IntKind.wrap_u64]; omega
    have hhi : i ≤ h := by omega
    have hhj : h < j := by omega
    have HH := Lib.hid hh; clear hh
    by_cases hv : cf dk[h]! dk[a]! < 0
    · have hv2 := hv
      rw [HXA.out] at hv2
      have HV2 := Lib.hid hv2; clear hv2
      have e1a : ((h : Int)).toNat = h := by omega
      have p1a : (0 : Int) ≤ (h : Int) := by omega
      have b1a : (h : Int) < (N : Int) := by omega
      have r1a : IntKind.i64.wrap ((h : Int)) = (h : Int) := by rw [IntKind.wrap_i64]; omega
      have e1c : ((a : Int)).toNat = a := by omega
      have p1c : (0 : Int) ≤ (a : Int) := by omega
      have b1c : (a : Int) < (N : Int) := by omega
      have r1c : IntKind.i64.wrap ((a : Int)) = (a : Int) := by rw [IntKind.wrap_i64]; omega
      obtain ⟨xx, hxx⟩ : ∃ x, x = dk[h]! := ⟨_, rfl⟩
      obtain ⟨yy, hyy⟩ : ∃ x, x = dk[a]! := ⟨_, rfl⟩
      have la1 := fun n os => loadS_of (S1.out.ld R (by omega) Tryz.prog (h) (by omega) n os)
      have lb1 := fun n os => loadS_of (S1.out.ld R (by omega) Tryz.prog (a) (by omega) n os)
      rw [← hxx] at la1
      rw [← hyy] at lb1
      have hc1 := S1.out.cmp HC.out (by omega) xx yy
      have hv1 : cf xx yy < 0 := by rw [hxx, hyy]; exact hv
      have hd1 : decide (cf xx yy < 0) = true := decide_eq_true hv1
      clear hxx hyy hv
      go_wp2_with fail
      go_quiet_grown (first | (go_at_fn g; refine Calls.grown_of (hc1 _ _)))
      have S2 : Aside (SWK enc 20 w0 blk off dk (grow (wr.drewN nq) osq)) := S1.out.grown nq osq
      clear la1 lb1 hc1 S1
      generalize grow (wr.drewN nq) osq = w2 at S2 ⊢
      clear nq osq
      go_wp2
      go_roundw
      case rel => exact ⟨h + 1, j, by go_num, rfl, by omega, by omega, hjb, Lib.hid (Or.inr (by rw [Nat.add_sub_cancel]; exact HV2.out)), U, S2⟩
      case measure => simp [intOf]; omega
    · have hv2 := Int.not_lt.1 hv
      rw [HXA.out] at hv2
      have HV2 := Lib.hid hv2; clear hv2
      have e2a : ((h : Int)).toNat = h := by omega
      have p2a : (0 : Int) ≤ (h : Int) := by omega
      have b2a : (h : Int) < (N : Int) := by omega
      have r2a : IntKind.i64.wrap ((h : Int)) = (h : Int) := by rw [IntKind.wrap_i64]; omega
      have e2c : ((a : Int)).toNat = a := by omega
      have p2c : (0 : Int) ≤ (a : Int) := by omega
      have b2c : (a : Int) < (N : Int) := by omega
      have r2c : IntKind.i64.wrap ((a : Int)) = (a : Int) := by rw [IntKind.wrap_i64]; omega
      obtain ⟨xx, hxx⟩ : ∃ x, x = dk[h]! := ⟨_, rfl⟩
      obtain ⟨yy, hyy⟩ : ∃ x, x = dk[a]! := ⟨_, rfl⟩
      have la2 := fun n os => loadS_of (S1.out.ld R (by omega) Tryz.prog (h) (by omega) n os)
      have lb2 := fun n os => loadS_of (S1.out.ld R (by omega) Tryz.prog (a) (by omega) n os)
      rw [← hxx] at la2
      rw [← hyy] at lb2
      have hc2 := S1.out.cmp HC.out (by omega) xx yy
      have hv2 : ¬ cf xx yy < 0 := by rw [hxx, hyy]; exact hv
      have hd2 : decide (cf xx yy < 0) = false := decide_eq_false hv2
      clear hxx hyy hv
      go_wp2_with fail
      go_quiet_grown (first | (go_at_fn g; refine Calls.grown_of (hc2 _ _)))
      have S2 : Aside (SWK enc 20 w0 blk off dk (grow (wr.drewN nq) osq)) := S1.out.grown nq osq
      clear la2 lb2 hc2 S1
      generalize grow (wr.drewN nq) osq = w2 at S2 ⊢
      clear nq osq
      go_wp2
      go_roundw
      case rel => exact ⟨i, h, rfl, by go_num, hmi, hhi, by omega, L, Lib.hid (Or.inr HV2.out), S2⟩
      case measure => simp [intOf]; omega
  · have hltz : ¬ (i : Int) < (j : Int) := by omega
    have hie : j = i := by omega
    subst hie
    obtain ⟨Y1, Y2, hYY, hlen, hpw⟩ := one_left (cf := cf) tr p Y s x hY c1 c2 j m b HM.out HB.out hmi hjb (by rw [← HDK.out]; exact L.out) (by rw [← HDK.out]; exact U.out)
    have S2 : Aside (SWK enc 20 w0 blk off (oneR p Y1 x (Y2 ++ s) 0).toArray wr) := by
     rw [oneR_zero, ← List.append_assoc, ← hYY, ← HDK.out]
     exact S1.out
    clear S1
    obtain ⟨e, he⟩ : ∃ e, e = a + Y1.length := ⟨_, rfl⟩
    have hje : (j : Int) - 1 = (e : Int) := by have := HMA.out; omega
    have hew : IntKind.i64.wrap (e : Int) = (e : Int) := by have := HMA.out; rw [IntKind.wrap_i64]; omega
    have hae : a ≤ e := by omega
    have heN : e + 1 ≤ N := by have := HMA.out; omega
    have hsz2 : N = p.length + Y1.length + 1 + (Y2 ++ s).length := by have := HL.out; rw [hYY] at this; simp at this ⊢; omega
    have HSZ2 := Lib.hid hsz2; clear hsz2
    have HYY := Lib.hid hYY; clear hYY
    have HE := Lib.hid he; clear he hlen
    have HPW := Lib.hid hpw; clear hpw
    have HJE := Lib.hid hje
    go_wp2_with fail
    go_loopw [13] (fun v wr => ∃ k : Nat, v = .int .i64 k ∧ a ≤ k ∧ k ≤ e ∧ Aside (SWK enc 20 w0 blk off (oneR p Y1 x (Y2 ++ s) (k - a)).toArray wr)) (fun v _ => e - (intOf v).toNat)
    case atStart => exact ⟨a, rfl, Nat.le_refl _, hae, by rw [Nat.sub_self]; exact S2⟩
    case round =>
     clear S2
     obtain ⟨k, rfl, hak, hke, S1⟩ := hrel
     by_cases hlt2 : k < e
     · have hkz : (k : Int) < (e : Int) := by omega
       obtain ⟨dk2, hdk2⟩ : ∃ x', x' = (oneR p Y1 x (Y2 ++ s) (k - a)).toArray := ⟨_, rfl⟩
       have hnx : swp dk2 k (k + 1) = (oneR p Y1 x (Y2 ++ s) (k + 1 - a)).toArray := by
        rw [hdk2, show k + 1 - a = (k - a) + 1 by omega]
        exact oneR_next p Y1 _ x (k - a) k (k + 1) (by have := HE.out; omega) (by have := HA.out; omega) rfl
       have HNX := Lib.hid hnx; clear hnx
       have hds2 : dk2.size = N := by rw [hdk2, List.size_toArray, oneR_len]; exact HSZ2.out.symm
       rw [← hdk2] at S1
       clear hdk2
       have hje2 := HJE.out
       go_wp2_with fail
       have e3a : ((k : Int)).toNat = k := by omega
       have p3a : (0 : Int) ≤ (k : Int) := by omega
       have b3a : (k : Int) < (N : Int) := by omega
       have r3a : IntKind.i64.wrap ((k : Int)) = (k : Int) := by rw [IntKind.wrap_i64]; omega
       have e3c : ((k : Int) + 1).toNat = k + 1 := by omega
       have p3c : (0 : Int) ≤ (k : Int) + 1 := by omega
       have b3c : (k : Int) + 1 < (N : Int) := by omega
       have r3c : IntKind.i64.wrap ((k : Int) + 1) = (k : Int) + 1 := by rw [IntKind.wrap_i64]; omega
       have S2 : Aside (SWK enc 20 w0 blk off (swp dk2 (k) (k + 1)) ((wr.drew.setCells blk (off + (k) * 20) (enc dk2[k + 1]!)).setCells blk (off + (k + 1) * 20) (enc dk2[k]!))) := S1.out.swapped R (k) (k + 1) (by omega) (by omega)
       have la3 := loadS_of (S1.out.ld1 R (by omega) Tryz.prog (k) (by omega))
       have lb3 := loadS_of (S1.out.ld1 R (by omega) Tryz.prog (k + 1) (by omega))
       have sa3 := storeS_of (R.hk _) (S1.out.st1 R (by omega) Tryz.prog (k) (by omega) dk2[k + 1]!)
       have sb3 := storeS_of (R.hk _) (S1.out.st2 R (by omega) Tryz.prog (k) (k + 1) (by omega) (by omega) dk2[k + 1]! dk2[k]!)
       generalize enc dk2[k]! = cI at S2 la3 sb3
       generalize enc dk2[k + 1]! = cJ at S2 lb3 sa3 sb3
       clear S1
       go_wp2_with fail
       go_big_region_o
       clear la3 lb3 sa3 sb3
       generalize (wr.drew.setCells blk (off + (k) * 20) cJ).setCells blk (off + (k + 1) * 20) cI = w2 at S2 ⊢
       go_wp2
       rw [HNX.out] at S2
       go_roundw
       case rel => exact ⟨k + 1, by go_num, by omega, by omega, S2⟩
       case measure => simp [intOf]; omega
     · have hke2 : k = e := by omega
       have hkz : ¬ (k : Int) < (e : Int) := by omega
       have hje2 := HJE.out
       go_wp2
       refine bodyPost_ret (results_none rfl _ _ _) rfl ?_
       refine ⟨rfl, Y1 ++ x :: Y2, ?_, HPW.out, ?_⟩
       · rw [HYY.out]
         exact List.perm_middle
       · have h1 := S1.out
         rw [oneR_all p Y1 _ x (k - a) (by have := HE.out; omega)] at h1
         simpa using h1
theorem sym_right {α : Type} [Inhabited α] (enc : α → List Value) (blk off cap N : Nat) (d0 : Array α) (w0 : World) (R : RowK enc 20 w0 blk off d0) (hN : d0.size = N) (hsz : N ≤ 1000000) {cf : α → α → Int} {B : α → α → Prop} (tr : ∀ x y z, B x y → B y z → B x z) (g : Nat) (cb : Array Value) (eg : ∀ args w, (callFunc g args).run Tryz.prog w = .ok (.enter g args) w) (hcmp : CmpLays Tryz.prog g cb enc 20 cf blk off N w0) (p X s : List α) (y : α) (a m b : Nat) (w : World) (hX2 : 2 ≤ X.length) (hX : X.Pairwise B) (c1 : ∀ x ∈ X, cf y x < 0 → B y x) (c2 : ∀ x ∈ X, 0 ≤ cf y x → B x y) (hl : N = p.length + X.length + 1 + s.length) (ha : a = p.length) (hm : m = p.length + X.length) (hb : b = p.length + X.length + 1)
 (S : SWK enc 20 w0 blk off (p ++ (X ++ y :: s)).toArray w) :
 Calls Tryz.prog 115 #[.slice (some ⟨blk, off, none⟩) N cap, .int .i64 a, .int .i64 m, .int .i64 b, .func (.func g) #[] cb] w fun e w' => e = .returned (.tuple #[]) ∧ ∃ Z, Z.Perm (X ++ [y]) ∧ Z.Pairwise B ∧ SWK enc 20 w0 blk off (p ++ (Z ++ s)).toArray w' := by
 have HC : Aside _ := hcmp
 clear hcmp
 obtain ⟨dk, hdk⟩ : ∃ d, d = (p ++ (X ++ y :: s)).toArray := ⟨_, rfl⟩
 have hds : dk.size = N := by rw [hdk, List.size_toArray, hl]; simp; omega
 have hxa : dk[m]! = y := by rw [hdk, ← List.append_assoc]; exact at_app _ _ _ _ (by rw [hm]; simp)
 have S0 : Aside (SWK enc 20 w0 blk off dk w) := by rw [hdk]; exact S
 have HDK := Lib.hid hdk; clear hdk S
 have HXA := Lib.hid hxa; clear hxa
 have hmN : m < N := by omega
 have ham : a ≤ m := by omega
 obtain ⟨u, hu⟩ : ∃ u, u = m - a := ⟨_, rfl⟩
 have s1 : IntKind.i64.wrap ((m : Int) - (a : Int)) = (u : Int) := by rw [IntKind.wrap_i64]; omega
 have s2 : IntKind.i64.wrap ((b : Int) - (m : Int)) = 1 := by rw [IntKind.wrap_i64]; omega
 have s3 : ((u : Int) == 1) = false := by simp; omega
 clear hX2 hu
 have HL := Lib.hid hl; clear hl
 have HA := Lib.hid ha; clear ha
 have HM := Lib.hid hm; clear hm
 have HB := Lib.hid hb; clear hb
 go_enter Tryz.func115, Tryz.ntmps115
 have mixed : Tryz.prog.follows .mixedOrders = true := by kernel_rfl
 go_wp2_with fail
 go_loopw [14, 15] (fun v10 v11 wr => ∃ i j : Nat, v10 = .int .i64 i ∧ v11 = .int .i64 j ∧ a ≤ i ∧ i ≤ j ∧ j ≤ m ∧ Hid (i = a ∨ 0 ≤ cf y dk[i - 1]!) ∧ Hid (j = m ∨ cf y dk[j]! < 0) ∧ Aside (SWK enc 20 w0 blk off dk wr)) (fun v10 v11 _ => (intOf v11).toNat - (intOf v10).toNat)
 case atStart => exact ⟨a, m, rfl, rfl, Nat.le_refl _, ham, Nat.le_refl _, Lib.hid (Or.inl rfl), Lib.hid (Or.inl rfl), S0⟩
 case round =>
  clear S0 s1 s2 s3
  obtain ⟨i, j, rfl, rfl, hmi, hij, hjb, L, U, S1⟩ := hrel
  by_cases hlt : i < j
  · have hltz : (i : Int) < (j : Int) := by omega
    obtain ⟨h, hh⟩ : ∃ h, h = (i + j) / 2 := ⟨_, rfl⟩
    have hz : ((i : Int) + (j : Int)) / 2 = (h : Int) := by omega
    have hw1 : IntKind.i64.wrap ((i : Int) + (j : Int)) = (i : Int) + (j : Int) := by rw [IntKind.wrap_i64]; omega
    have hw2 : IntKind.u64.wrap ((i : Int) + (j : Int)) = (i : Int) + (j : Int) := by rw [IntKind.wrap_u64]; omega
    have hhi : i ≤ h := by omega
    have hhj : h < j := by omega
    have HH := Lib.hid hh; clear hh
    by_cases hv : cf dk[m]! dk[h]! < 0
    · have hv2 := hv
      rw [HXA.out] at hv2
      have HV2 := Lib.hid hv2; clear hv2
      have e1a : ((m : Int)).toNat = m := by omega
      have p1a : (0 : Int) ≤ (m : Int) := by omega
      have b1a : (m : Int) < (N : Int) := by omega
      have r1a : IntKind.i64.wrap ((m : Int)) = (m : Int) := by rw [IntKind.wrap_i64]; omega
      have e1c : ((h : Int)).toNat = h := by omega
      have p1c : (0 : Int) ≤ (h : Int) := by omega
      have b1c : (h : Int) < (N : Int) := by omega
      have r1c : IntKind.i64.wrap ((h : Int)) = (h : Int) := by rw [IntKind.wrap_i64]; omega
      obtain ⟨xx, hxx⟩ : ∃ x, x = dk[m]! := ⟨_, rfl⟩
      obtain ⟨yy, hyy⟩ : ∃ x, x = dk[h]! := ⟨_, rfl⟩
      have la1 := fun n os => loadS_of (S1.out.ld R (by omega) Tryz.prog (m) (by omega) n os)
      have lb1 := fun n os => loadS_of (S1.out.ld R (by omega) Tryz.prog (h) (by omega) n os)
      rw [← hxx] at la1
      rw [← hyy] at lb1
      have hc1 := S1.out.cmp HC.out (by omega) xx yy
      have hv1 : cf xx yy < 0 := by rw [hxx, hyy]; exact hv
      have hd1 : decide (cf xx yy < 0) = true := decide_eq_true hv1
      clear hxx hyy hv
      go_wp2_with fail
      go_quiet_grown (first | (go_at_fn g; refine Calls.grown_of (hc1 _ _)))
      have S2 : Aside (SWK enc 20 w0 blk off dk (grow (wr.drewN nq) osq)) := S1.out.grown nq osq
      clear la1 lb1 hc1 S1
      generalize grow (wr.drewN nq) osq = w2 at S2 ⊢
      clear nq osq
      go_wp2
      go_roundw
      case rel => exact ⟨i, h, rfl, by go_num, hmi, hhi, by omega, L, Lib.hid (Or.inr HV2.out), S2⟩
      case measure => simp [intOf]; omega
    · have hv2 := Int.not_lt.1 hv
      rw [HXA.out] at hv2
      have HV2 := Lib.hid hv2; clear hv2
      have e2a : ((m : Int)).toNat = m := by omega
      have p2a : (0 : Int) ≤ (m : Int) := by omega
      have b2a : (m : Int) < (N : Int) := by omega
      have r2a : IntKind.i64.wrap ((m : Int)) = (m : Int) := by rw [IntKind.wrap_i64]; omega
      have e2c : ((h : Int)).toNat = h := by omega
      have p2c : (0 : Int) ≤ (h : Int) := by omega
      have b2c : (h : Int) < (N : Int) := by omega
      have r2c : IntKind.i64.wrap ((h : Int)) = (h : Int) := by rw [IntKind.wrap_i64]; omega
      obtain ⟨xx, hxx⟩ : ∃ x, x = dk[m]! := ⟨_, rfl⟩
      obtain ⟨yy, hyy⟩ : ∃ x, x = dk[h]! := ⟨_, rfl⟩
      have la2 := fun n os => loadS_of (S1.out.ld R (by omega) Tryz.prog (m) (by omega) n os)
      have lb2 := fun n os => loadS_of (S1.out.ld R (by omega) Tryz.prog (h) (by omega) n os)
      rw [← hxx] at la2
      rw [← hyy] at lb2
      have hc2 := S1.out.cmp HC.out (by omega) xx yy
      have hv2 : ¬ cf xx yy < 0 := by rw [hxx, hyy]; exact hv
      have hd2 : decide (cf xx yy < 0) = false := decide_eq_false hv2
      clear hxx hyy hv
      go_wp2_with fail
      go_quiet_grown (first | (go_at_fn g; refine Calls.grown_of (hc2 _ _)))
      have S2 : Aside (SWK enc 20 w0 blk off dk (grow (wr.drewN nq) osq)) := S1.out.grown nq osq
      clear la2 lb2 hc2 S1
      generalize grow (wr.drewN nq) osq = w2 at S2 ⊢
      clear nq osq
      go_wp2
      go_roundw
      case rel => exact ⟨h + 1, j, by go_num, rfl, by omega, by omega, hjb, Lib.hid (Or.inr (by rw [Nat.add_sub_cancel]; exact HV2.out)), U, S2⟩
      case measure => simp [intOf]; omega
  · have hltz : ¬ (i : Int) < (j : Int) := by omega
    have hie : j = i := by omega
    subst hie
    obtain ⟨X1, X2, hXX, hlen, hpw⟩ := one_right (cf := cf) tr p X s y hX c1 c2 j m HM.out (by rw [← HA.out]; exact hmi) hjb (by rw [← HDK.out, ← HA.out]; exact L.out) (by rw [← HDK.out]; exact U.out)
    have hm2 : m = j + X2.length := by have := HM.out; rw [hXX] at this; simp at this; omega
    have hp1 : (p ++ X1).length = j := by simp; omega
    have S2 : Aside (SWK enc 20 w0 blk off (oneR (p ++ X1) X2 y s (m - j)).toArray wr) := by
     rw [oneR_all _ _ _ _ _ (show m - j = X2.length by omega), List.append_assoc, ← List.append_assoc X1, ← hXX, ← HDK.out]
     exact S1.out
    clear S1
    have hsz2 : N = (p ++ X1).length + X2.length + 1 + s.length := by have := HL.out; rw [hXX] at this; simp at this ⊢; omega
    have HSZ2 := Lib.hid hsz2; clear hsz2
    have HXX := Lib.hid hXX; clear hXX hlen
    have HPW := Lib.hid hpw; clear hpw
    have HM2 := Lib.hid hm2; clear hm2
    have HP1 := Lib.hid hp1; clear hp1
    go_wp2_with fail
    go_loopw [17] (fun v wr => ∃ k : Nat, v = .int .i64 k ∧ j ≤ k ∧ k ≤ m ∧ Aside (SWK enc 20 w0 blk off (oneR (p ++ X1) X2 y s (k - j)).toArray wr)) (fun v _ => (intOf v).toNat)
    case atStart => exact ⟨m, rfl, hjb, Nat.le_refl _, S2⟩
    case round =>
     clear S2
     obtain ⟨k, rfl, hjk, hkm, S1⟩ := hrel
     by_cases hlt2 : j < k
     · obtain ⟨q, rfl⟩ : ∃ q, k = q + 1 := ⟨k - 1, by omega⟩
       have hkz : (j : Int) < (q : Int) + 1 := by omega
       have hwq : IntKind.i64.wrap (q : Int) = (q : Int) := by rw [IntKind.wrap_i64]; omega
       obtain ⟨dk2, hdk2⟩ : ∃ x', x' = (oneR (p ++ X1) X2 y s (q + 1 - j)).toArray := ⟨_, rfl⟩
       have hnx : swp dk2 (q + 1) q = (oneR (p ++ X1) X2 y s (q - j)).toArray := by
        rw [hdk2, show q + 1 - j = (q - j) + 1 by omega]
        exact oneR_prev (p ++ X1) X2 _ y (q - j) (q + 1) q (by have := HM2.out; omega) (by have := HP1.out; omega) rfl
       have HNX := Lib.hid hnx; clear hnx
       have hds2 : dk2.size = N := by rw [hdk2, List.size_toArray, oneR_len]; exact HSZ2.out.symm
       rw [← hdk2] at S1
       clear hdk2
       go_wp2_with fail
       have e3a : ((q : Int) + 1).toNat = q + 1 := by omega
       have p3a : (0 : Int) ≤ (q : Int) + 1 := by omega
       have b3a : (q : Int) + 1 < (N : Int) := by omega
       have r3a : IntKind.i64.wrap ((q : Int) + 1) = (q : Int) + 1 := by rw [IntKind.wrap_i64]; omega
       have e3c : ((q : Int)).toNat = q := by omega
       have p3c : (0 : Int) ≤ (q : Int) := by omega
       have b3c : (q : Int) < (N : Int) := by omega
       have r3c : IntKind.i64.wrap ((q : Int)) = (q : Int) := by rw [IntKind.wrap_i64]; omega
       have S2 : Aside (SWK enc 20 w0 blk off (swp dk2 (q + 1) (q)) ((wr.drew.setCells blk (off + (q + 1) * 20) (enc dk2[q]!)).setCells blk (off + (q) * 20) (enc dk2[q + 1]!))) := S1.out.swapped R (q + 1) (q) (by omega) (by omega)
       have la3 := loadS_of (S1.out.ld1 R (by omega) Tryz.prog (q + 1) (by omega))
       have lb3 := loadS_of (S1.out.ld1 R (by omega) Tryz.prog (q) (by omega))
       have sa3 := storeS_of (R.hk _) (S1.out.st1 R (by omega) Tryz.prog (q + 1) (by omega) dk2[q]!)
       have sb3 := storeS_of (R.hk _) (S1.out.st2 R (by omega) Tryz.prog (q + 1) (q) (by omega) (by omega) dk2[q]! dk2[q + 1]!)
       generalize enc dk2[q + 1]! = cI at S2 la3 sb3
       generalize enc dk2[q]! = cJ at S2 lb3 sa3 sb3
       clear S1
       go_wp2_with fail
       go_big_region_o
       clear la3 lb3 sa3 sb3
       generalize (wr.drew.setCells blk (off + (q + 1) * 20) cJ).setCells blk (off + (q) * 20) cI = w2 at S2 ⊢
       go_wp2
       rw [HNX.out] at S2
       go_roundw
       case rel => exact ⟨q, by first | rfl | go_num, by omega, by omega, S2⟩
       case measure => simp [intOf]
     · have hke2 : k = j := Nat.le_antisymm (Nat.not_lt.1 hlt2) hjk
       have hkz : ¬ (j : Int) < (k : Int) := by omega
       go_wp2
       refine bodyPost_ret (results_none rfl _ _ _) rfl ?_
       refine ⟨rfl, X1 ++ y :: X2, ?_, HPW.out, ?_⟩
       · rw [HXX.out]
         refine List.perm_middle.trans ?_
         exact (List.perm_append_singleton y (X1 ++ X2)).symm
       · have h1 := S1.out
         rw [hke2, Nat.sub_self, oneR_zero] at h1
         simpa using h1
end Go.Proofs.YtecnlfaholmpoaaGreat
