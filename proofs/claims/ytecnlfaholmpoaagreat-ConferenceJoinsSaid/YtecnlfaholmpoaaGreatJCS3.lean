/- Two sorted stretches of a row of clauses, merged: slices.symMergeCmpFunc. -/
import Derived.Shelf.SlSortCmp.KitK
import Derived.Sort.WalkB2
import Derived.Sort.WalkB12
import Derived.Deep.LoopGhost
import Derived.Lib.Hide
import Derived.Test.YtecnlfaholmpoaaGreatRows
import Derived.Test.YtecnlfaholmpoaaGreatJCS2
import Derived.Deep.CutRange
import Derived.Deep.DeepCutAuto
set_option linter.unusedVariables false
set_option linter.unusedSimpArgs false
set_option maxRecDepth 100000
set_option maxHeartbeats 4000000
namespace Go.Proofs.YtecnlfaholmpoaaGreat
open Go.Shelf Go.RowKit Go.Lib Go.Sort
attribute [local go_sem ↓ high] loadVar_foldS storeVar_foldS
theorem sym_deep {α : Type} [Inhabited α] (enc : α → List Value) (blk off cap N : Nat) (d0 : Array α) (w0 : World) (R : RowK enc 20 w0 blk off d0) (hN : d0.size = N) (hsz : N ≤ 1000000) {cf : α → α → Int} {B : α → α → Prop} (tr : ∀ x y z, B x y → B y z → B x z) (g : Nat) (cb : Array Value) (eg : ∀ args w, (callFunc g args).run Tryz.prog w = .ok (.enter g args) w) (hcmp : CmpLays Tryz.prog g cb enc 20 cf blk off N w0) (u v : Nat) (ih : ∀ (p X Y s : List α) (a m b : Nat) (w : World), X.length + Y.length < u + v → X ≠ [] → Y ≠ [] → X.Pairwise B → Y.Pairwise B → (∀ x ∈ X, ∀ y ∈ Y, cf y x < 0 → B y x) → (∀ x ∈ X, ∀ y ∈ Y, 0 ≤ cf y x → B x y) → N = p.length + X.length + Y.length + s.length → a = p.length → m = p.length + X.length → b = p.length + X.length + Y.length →
 SWK enc 20 w0 blk off (p ++ (X ++ (Y ++ s))).toArray w →
 Calls Tryz.prog 115 #[.slice (some ⟨blk, off, none⟩) N cap, .int .i64 a, .int .i64 m, .int .i64 b, .func (.func g) #[] cb] w fun e w' => e = .returned (.tuple #[]) ∧ ∃ Z, Z.Perm (X ++ Y) ∧ Z.Pairwise B ∧ SWK enc 20 w0 blk off (p ++ (Z ++ s)).toArray w') (p X Y s : List α) (a m b : Nat) (w : World) (hu : X.length = u) (hv : Y.length = v) (hu2 : 2 ≤ u) (hv2 : 2 ≤ v) (hX : X.Pairwise B) (hY : Y.Pairwise B) (c1 : ∀ x ∈ X, ∀ y ∈ Y, cf y x < 0 → B y x) (c2 : ∀ x ∈ X, ∀ y ∈ Y, 0 ≤ cf y x → B x y) (hl : N = p.length + X.length + Y.length + s.length) (ha : a = p.length) (hm : m = p.length + X.length) (hb : b = p.length + X.length + Y.length)
 (S : SWK enc 20 w0 blk off (p ++ (X ++ (Y ++ s))).toArray w) :
 Calls Tryz.prog 115 #[.slice (some ⟨blk, off, none⟩) N cap, .int .i64 a, .int .i64 m, .int .i64 b, .func (.func g) #[] cb] w fun e w' => e = .returned (.tuple #[]) ∧ ∃ Z, Z.Perm (X ++ Y) ∧ Z.Pairwise B ∧ SWK enc 20 w0 blk off (p ++ (Z ++ s)).toArray w' := by
 have HC : Aside _ := hcmp
 have IH : Aside _ := ih
 clear hcmp ih
 obtain ⟨dk, hdk⟩ : ∃ d, d = (p ++ (X ++ (Y ++ s))).toArray := ⟨_, rfl⟩
 have hds : dk.size = N := by rw [hdk, List.size_toArray, hl]; simp; omega
 have S0 : Aside (SWK enc 20 w0 blk off dk w) := by rw [hdk]; exact S
 have HDK := Lib.hid hdk; clear hdk S
 have hmu : m = a + u := by omega
 have hbv : b = m + v := by omega
 have hbN : b ≤ N := by omega
 have s1 : IntKind.i64.wrap ((m : Int) - (a : Int)) = (u : Int) := by rw [IntKind.wrap_i64]; omega
 have s2 : IntKind.i64.wrap ((b : Int) - (m : Int)) = (v : Int) := by rw [IntKind.wrap_i64]; omega
 have s3 : ((u : Int) == 1) = false := by simp; omega
 have s4 : ((v : Int) == 1) = false := by simp; omega
 obtain ⟨mid, hmid⟩ : ∃ x, x = (a + b) / 2 := ⟨_, rfl⟩
 have am : a ≤ mid := by omega
 have mb : mid ≤ b := by omega
 have hz0 : ((a : Int) + (b : Int)) / 2 = (mid : Int) := by omega
 have hw1 : IntKind.i64.wrap ((a : Int) + (b : Int)) = (a : Int) + (b : Int) := by rw [IntKind.wrap_i64]; omega
 have hw2 : IntKind.u64.wrap ((a : Int) + (b : Int)) = (a : Int) + (b : Int) := by rw [IntKind.wrap_u64]; omega
 have hw3 : IntKind.i64.wrap (mid : Int) = (mid : Int) := by rw [IntKind.wrap_i64]; omega
 obtain ⟨n, hn⟩ : ∃ x, x = mid + m := ⟨_, rfl⟩
 have s5 : IntKind.i64.wrap ((mid : Int) + (m : Int)) = (n : Int) := by rw [IntKind.wrap_i64]; omega
 obtain ⟨st0, r0, hsel⟩ : ∃ st0 r0 : Nat, (mid < m ∧ st0 + b = n ∧ r0 = mid) ∨ (m ≤ mid ∧ st0 = a ∧ r0 = m) := by
  by_cases h : mid < m
  · exact ⟨n - b, mid, Or.inl ⟨h, by omega, rfl⟩⟩
  · exact ⟨a, m, Or.inr ⟨by omega, rfl, rfl⟩⟩
 obtain ⟨pn, hpn⟩ : ∃ x, x + 1 = n := ⟨n - 1, by omega⟩
 have f1 : a ≤ st0 := by omega
 have f2 : st0 ≤ r0 := by omega
 have f3 : r0 ≤ m ∧ r0 ≤ mid := by omega
 have f4 : n ≤ st0 + b := by omega
 have f5 : st0 = a ∨ st0 + b = n := by omega
 have f6 : r0 = m ∨ r0 = mid := by omega
 have hsel' : ((mid : Int) < (m : Int) ∧ IntKind.i64.wrap ((n : Int) - (b : Int)) = (st0 : Int) ∧ r0 = mid) ∨ (¬ (mid : Int) < (m : Int) ∧ st0 = a ∧ r0 = m) := by
  rcases hsel with ⟨h1, h2, h3⟩ | ⟨h1, h2, h3⟩
  · exact Or.inl ⟨by omega, by rw [IntKind.wrap_i64]; omega, h3⟩
  · exact Or.inr ⟨by omega, h2, h3⟩
 have s6 : IntKind.i64.wrap ((n : Int) - 1) = (pn : Int) := by rw [IntKind.wrap_i64]; omega
 have HSEL := Lib.hid hsel'; clear hsel hsel'
 have HF1 := Lib.hid f1; have HF2 := Lib.hid f2; have HF3 := Lib.hid f3; have HF4 := Lib.hid f4; have HF5 := Lib.hid f5; have HF6 := Lib.hid f6
 clear f1 f2 f3 f4 f5 f6
 have HL := Lib.hid hl; clear hl
 have HA := Lib.hid ha; clear ha
 have HM := Lib.hid hm; clear hm
 have HB := Lib.hid hb; clear hb
 have HMID := Lib.hid hmid; clear hmid
 have HN := Lib.hid hn; clear hn
 have HPN := Lib.hid hpn; clear hpn
 have HMU := Lib.hid hmu; clear hmu
 have HBV := Lib.hid hbv; clear hbv
 have HU := Lib.hid hu; clear hu
 have HV := Lib.hid hv; clear hv
 have HU2 := Lib.hid hu2; clear hu2
 have HV2 := Lib.hid hv2; clear hv2
 have HNb : Hid (n ≤ m + b ∧ m ≤ n ∧ m + b ≤ 2 * N) := Lib.hid (by have := HN.out; have := HBV.out; omega)
 go_enter Tryz.func115, Tryz.ntmps115
 have mixed : Tryz.prog.follows .mixedOrders = true := by kernel_rfl
 go_upto_if 140 with fail
 go_cut [20, 21] (fun v20 v21 wc => v20 = .int .i64 st0 ∧ v21 = .int .i64 r0 ∧ Aside (SWK enc 20 w0 blk off dk wc))
 case first =>
  rcases HSEL.out with ⟨q1, q2, q3⟩ | ⟨q1, q2, q3⟩
  · go_wp2_with fail
    go_meet
    case rel => exact ⟨rfl, by rw [q3], S0⟩
  · go_wp2_with fail
    go_meet
    case rel => exact ⟨by rw [q2], by rw [q3], S0⟩
 case rest =>
 obtain ⟨rfl, rfl, S1⟩ := hcut
 clear S0 s1 s2 s3 s4 hw1 hw2 hz0 s5
 go_wp2_with fail
 go_loopw [20, 21] (fun v10 v11 wr => ∃ i j : Nat, v10 = .int .i64 i ∧ v11 = .int .i64 j ∧ st0 ≤ i ∧ i ≤ j ∧ j ≤ r0 ∧ Hid (i = st0 ∨ 0 ≤ cf dk[n - i]! dk[i - 1]!) ∧ Hid (j = r0 ∨ cf dk[n - 1 - j]! dk[j]! < 0) ∧ Aside (SWK enc 20 w0 blk off dk wr)) (fun v10 v11 _ => (intOf v11).toNat - (intOf v10).toNat)
 case atStart => exact ⟨st0, r0, rfl, rfl, Nat.le_refl _, HF2.out, Nat.le_refl _, Lib.hid (Or.inl rfl), Lib.hid (Or.inl rfl), S1⟩
 case round =>
  clear S1 s6
  obtain ⟨i, j, rfl, rfl, hmi, hij, hjb, L, U, S1⟩ := hrel
  by_cases hlt : i < j
  · have hltz : (i : Int) < (j : Int) := by omega
    have hrN : r0 ≤ N := by have := HF3.out; have := HBV.out; omega
    obtain ⟨h, hh⟩ : ∃ h, h = (i + j) / 2 := ⟨_, rfl⟩
    have hz : ((i : Int) + (j : Int)) / 2 = (h : Int) := by omega
    have hw1 : IntKind.i64.wrap ((i : Int) + (j : Int)) = (i : Int) + (j : Int) := by rw [IntKind.wrap_i64]; omega
    have hw2 : IntKind.u64.wrap ((i : Int) + (j : Int)) = (i : Int) + (j : Int) := by rw [IntKind.wrap_u64]; omega
    have hhi : i ≤ h := by omega
    have hhj : h < j := by omega
    have HH := Lib.hid hh; clear hh
    obtain ⟨pc, hpc⟩ : ∃ x, x + h = pn := ⟨pn - h, by have := HPN.out; have := HF3.out; have := HN.out; omega⟩
    have hpcN : pc < N := by have := HPN.out; have := HF4.out; have := HBV.out; have := HU2.out; omega
    have hpw : IntKind.i64.wrap ((pn : Int) - (h : Int)) = (pc : Int) := by rw [IntKind.wrap_i64]; omega
    have q1 : n - (h + 1) = pc := by have := HPN.out; omega
    have q2 : n - 1 - h = pc := by have := HPN.out; omega
    have HPC := Lib.hid hpc; clear hpc
    have Q1 := Lib.hid q1; clear q1
    have Q2 := Lib.hid q2; clear q2
    by_cases hv : cf dk[pc]! dk[h]! < 0
    · have HV3 := Lib.hid hv
      have e1a : ((pc : Int)).toNat = pc := by omega
      have p1a : (0 : Int) ≤ (pc : Int) := by omega
      have b1a : (pc : Int) < (N : Int) := by omega
      have r1a : IntKind.i64.wrap ((pc : Int)) = (pc : Int) := by rw [IntKind.wrap_i64]; omega
      have e1c : ((h : Int)).toNat = h := by omega
      have p1c : (0 : Int) ≤ (h : Int) := by omega
      have b1c : (h : Int) < (N : Int) := by omega
      have r1c : IntKind.i64.wrap ((h : Int)) = (h : Int) := by rw [IntKind.wrap_i64]; omega
      obtain ⟨xx, hxx⟩ : ∃ x, x = dk[pc]! := ⟨_, rfl⟩
      obtain ⟨yy, hyy⟩ : ∃ x, x = dk[h]! := ⟨_, rfl⟩
      have la1 := fun n os => loadS_of (S1.out.ld R (by omega) Tryz.prog (pc) (by omega) n os)
      have lb1 := fun n os => loadS_of (S1.out.ld R (by omega) Tryz.prog (h) (by omega) n os)
      rw [← hxx] at la1
      rw [← hyy] at lb1
      have hc1 := S1.out.cmp HC.out (by omega) xx yy
      have hv1 : cf xx yy < 0 := by rw [hxx, hyy]; exact hv
      have hd1 : decide (cf xx yy < 0) = true := decide_eq_true hv1
      clear hxx hyy hv
      go_wp2_with fail
      go_quiet_grown (first | (go_at_fn g; refine Calls.grown_of (hc1 _ _)))
      have S2 : Aside (SWK enc 20 w0 blk off dk (grow (wr.drewN nq) osq)) := S1.out.grown nq osq
      clear la1 lb1 hc1 S1
      generalize grow (wr.drewN nq) osq = w2 at S2 ⊢
      clear nq osq
      go_wp2
      go_roundw
      case rel => exact ⟨i, h, rfl, by go_num, hmi, hhi, by omega, L, Lib.hid (Or.inr (by rw [Q2.out]; exact HV3.out)), S2⟩
      case measure => simp [intOf]; omega
    · have HV3 := Lib.hid (Int.not_lt.1 hv)
      have e2a : ((pc : Int)).toNat = pc := by omega
      have p2a : (0 : Int) ≤ (pc : Int) := by omega
      have b2a : (pc : Int) < (N : Int) := by omega
      have r2a : IntKind.i64.wrap ((pc : Int)) = (pc : Int) := by rw [IntKind.wrap_i64]; omega
      have e2c : ((h : Int)).toNat = h := by omega
      have p2c : (0 : Int) ≤ (h : Int) := by omega
      have b2c : (h : Int) < (N : Int) := by omega
      have r2c : IntKind.i64.wrap ((h : Int)) = (h : Int) := by rw [IntKind.wrap_i64]; omega
      obtain ⟨xx, hxx⟩ : ∃ x, x = dk[pc]! := ⟨_, rfl⟩
      obtain ⟨yy, hyy⟩ : ∃ x, x = dk[h]! := ⟨_, rfl⟩
      have la2 := fun n os => loadS_of (S1.out.ld R (by omega) Tryz.prog (pc) (by omega) n os)
      have lb2 := fun n os => loadS_of (S1.out.ld R (by omega) Tryz.prog (h) (by omega) n os)
      rw [← hxx] at la2
      rw [← hyy] at lb2
      have hc2 := S1.out.cmp HC.out (by omega) xx yy
      have hv2 : ¬ cf xx yy < 0 := by rw [hxx, hyy]; exact hv
      have hd2 : decide (cf xx yy < 0) = false := decide_eq_false hv2
      clear hxx hyy hv
      go_wp2_with fail
      go_quiet_grown (first | (go_at_fn g; refine Calls.grown_of (hc2 _ _)))
      have S2 : Aside (SWK enc 20 w0 blk off dk (grow (wr.drewN nq) osq)) := S1.out.grown nq osq
      clear la2 lb2 hc2 S1
      generalize grow (wr.drewN nq) osq = w2 at S2 ⊢
      clear nq osq
      go_wp2
      go_roundw
      case rel => exact ⟨h + 1, j, by go_num, rfl, by omega, by omega, hjb, Lib.hid (Or.inr (by rw [Q1.out, Nat.add_sub_cancel]; exact HV3.out)), U, S2⟩
      case measure => simp [intOf]; omega
  · have hltz : ¬ (i : Int) < (j : Int) := by omega
    have hie : j = i := by omega
    subst hie
    have st3 := HF3.out
    obtain ⟨X1, X2, Y1, Y2, hXX, hYY, hx1, hy1, hbe⟩ := sym_split (cf := cf) tr p X Y s hX hY c1 c2 a m b mid n j HA.out HM.out HB.out HMID.out HN.out (by have := HF1.out; omega) (by omega) (by omega) (by have := HF4.out; omega)
     (by rw [← HDK.out]; exact L.out.elim (fun h => by have := HF5.out; omega) (fun h => Or.inr (Or.inr h))) (by rw [← HDK.out]; exact U.out.elim (fun h => by have := HF6.out; omega) (fun h => Or.inr (Or.inr h)))
    obtain ⟨en, hen⟩ : ∃ x, x = n - j := ⟨_, rfl⟩
    have hjn : j ≤ n := by have := HN.out; omega
    have s7 : IntKind.i64.wrap ((n : Int) - (j : Int)) = (en : Int) := by have := HNb.out; rw [IntKind.wrap_i64]; omega
    have xl : X1.length + X2.length = u := by have := HU.out; rw [hXX] at this; simpa using this
    have yl : Y1.length + Y2.length = v := by have := HV.out; rw [hYY] at this; simpa using this
    have g1 : a + X1.length = j := by have := HA.out; omega
    have g2 : m + Y1.length = en := by omega
    have g3 : j + X2.length = m := by have := HMU.out; omega
    have g4 : mid + X2.length = en := by have := HN.out; omega
    have g5 : en + Y2.length = b := by have := HBV.out; omega
    have g6 : j + Y1.length = mid := by omega
    have pwX := hX; have pwY := hY
    rw [hXX, List.pairwise_append] at pwX
    rw [hYY, List.pairwise_append] at pwY
    have S2' : SWK enc 20 w0 blk off (p ++ (X1 ++ (X2 ++ (Y1 ++ (Y2 ++ s))))).toArray wr := by
     have h1 := S1.out
     rw [HDK.out, hXX, hYY] at h1
     simpa using h1
    have S2 : Aside (SWK enc 20 w0 blk off (p ++ (X1 ++ (X2 ++ (Y1 ++ (Y2 ++ s))))).toArray wr) := S2'
    clear S2'
    clear S1
    have HL2 : Hid (N = p.length + X1.length + X2.length + Y1.length + Y2.length + s.length) := Lib.hid (by have := HL.out; rw [hXX, hYY] at this; simp at this; omega)
    have HXX := Lib.hid hXX; clear hXX
    have HYY := Lib.hid hYY; clear hYY
    have HBE := Lib.hid hbe; clear hbe
    have HEN := Lib.hid hen; clear hen
    have HX1 := Lib.hid hx1; clear hx1
    have HY1 := Lib.hid hy1; clear hy1
    have G1 := Lib.hid g1; have G2 := Lib.hid g2; have G3 := Lib.hid g3; have G4 := Lib.hid g4; have G5 := Lib.hid g5; have G6 := Lib.hid g6
    have XL := Lib.hid xl; have YL := Lib.hid yl
    have PX := Lib.hid pwX; have PY := Lib.hid pwY
    clear g1 g2 g3 g4 g5 g6 xl yl pwX pwY st3 hjn
    go_upto_region 39 with fail
    go_cut [185] (fun v wc => ∃ q : Bool, v = .bool q ∧ Hid (q = true ↔ (j < m ∧ m < en)) ∧ Aside (SWK enc 20 w0 blk off (p ++ (X1 ++ (X2 ++ (Y1 ++ (Y2 ++ s))))).toArray wc))
    case first =>
     as_aux_lemma =>
      by_cases h1 : j < m
      · by_cases h2 : m < en
        · have z1 : (j : Int) < (m : Int) := by omega
          have z2 : (m : Int) < (en : Int) := by omega
          go_wp2_with fail
          go_meet
          case rel => exact ⟨true, rfl, Lib.hid (by simp [h1, h2]), S2⟩
        · have z1 : (j : Int) < (m : Int) := by omega
          have z2 : ¬ (m : Int) < (en : Int) := by omega
          go_wp2_with fail
          go_meet
          case rel => exact ⟨false, rfl, Lib.hid (by simp [h2]), S2⟩
      · have z1 : ¬ (j : Int) < (m : Int) := by omega
        go_wp2_with fail
        go_meet
        case rel => exact ⟨false, rfl, Lib.hid (by simp [h1]), S2⟩
    case rest =>
    clear S2
    obtain ⟨q39, rfl, HQ39, S2⟩ := hcut
    obtain ⟨wq, hwq⟩ : ∃ x, x = wc := ⟨_, rfl⟩
    subst hwq
    go_upto_if 185 with fail
    go_cut [] (fun wc => Aside (SWK enc 20 w0 blk off (p ++ (X1 ++ (Y1 ++ (X2 ++ (Y2 ++ s))))).toArray wc))
    case first =>
     as_aux_lemma =>
      cases q39 with
      | true =>
        have h12 := HQ39.out.1 rfl
        have h1 := h12.1
        have h2 := h12.2
        have hcon := rotate_any enc blk off cap N d0 w0 R hN hsz (p ++ X1) X2 Y1 (Y2 ++ s) j m en wq (.func (.func g) #[] cb) (by rintro rfl; have := G3.out; simp at this; omega) (by rintro rfl; have := G2.out; simp at this; omega) (by have := HL2.out; simp; omega) (by have := G1.out; have := HA.out; simp; omega) (by have := G1.out; have := G3.out; have := HA.out; simp; omega) (by have := G1.out; have := G2.out; have := G3.out; have := HA.out; simp; omega) (by rw [List.append_assoc]; exact S2.out)
        have HCON := Lib.hid hcon; clear hcon
        go_wp2_with fail
        refine HCON.out.mono ?_
        rintro e w1 ⟨rfl, S3⟩
        have S3' : Aside _ := S3
        clear S3
        go_wp2_with fail
        go_meet
        case rel => have := S3'.out; rw [List.append_assoc] at this; exact this
      | false =>
        have hno : X2 = [] ∨ Y1 = [] := by
         by_cases h1 : j < m
         · by_cases h2 : m < en
           · exact absurd (HQ39.out.2 ⟨h1, h2⟩) (by simp)
           · exact Or.inr (List.length_eq_zero_iff.1 (by have := G2.out; omega))
         · exact Or.inl (List.length_eq_zero_iff.1 (by have := G3.out; omega))
        go_wp2_with fail
        go_meet
        case rel =>
         have := S2.out
         rcases hno with hn0 | hn0
         · rw [hn0] at this ⊢; exact this
         · rw [hn0] at this ⊢; exact this
    case rest =>
    clear S2
    obtain ⟨w1, hw1⟩ : ∃ x, x = wc := ⟨_, rfl⟩
    subst hw1
    have S3 : Aside _ := hcut
    clear hcut
    go_upto_region 41 with fail
    go_cut [199] (fun v wc => ∃ q : Bool, v = .bool q ∧ Hid (q = true ↔ (a < j ∧ j < mid)) ∧ Aside (SWK enc 20 w0 blk off (p ++ (X1 ++ (Y1 ++ (X2 ++ (Y2 ++ s))))).toArray wc))
    case first =>
     as_aux_lemma =>
      by_cases h1 : a < j
      · by_cases h2 : j < mid
        · have z1 : (a : Int) < (j : Int) := by omega
          have z2 : (j : Int) < (mid : Int) := by omega
          go_wp2_with fail
          go_meet
          case rel => exact ⟨true, rfl, Lib.hid (by simp [h1, h2]), S3⟩
        · have z1 : (a : Int) < (j : Int) := by omega
          have z2 : ¬ (j : Int) < (mid : Int) := by omega
          go_wp2_with fail
          go_meet
          case rel => exact ⟨false, rfl, Lib.hid (by simp [h2]), S3⟩
      · have z1 : ¬ (a : Int) < (j : Int) := by omega
        go_wp2_with fail
        go_meet
        case rel => exact ⟨false, rfl, Lib.hid (by simp [h1]), S3⟩
    case rest =>
    clear S3
    obtain ⟨q41, rfl, HQ41, S3⟩ := hcut
    obtain ⟨wq2, hwq2⟩ : ∃ x, x = wc := ⟨_, rfl⟩
    subst hwq2
    go_upto_if 199 with fail
    go_cut [] (fun wc => ∃ Z1 : List α, Hid (Z1.Perm (X1 ++ Y1)) ∧ Hid (Z1.Pairwise B) ∧ Aside (SWK enc 20 w0 blk off (p ++ (Z1 ++ (X2 ++ (Y2 ++ s)))).toArray wc))
    case first =>
     as_aux_lemma =>
      cases q41 with
      | true =>
        have h12 := HQ41.out.1 rfl
        have h1 := h12.1
        have h2 := h12.2
        have hcon := IH.out p X1 Y1 (X2 ++ (Y2 ++ s)) a j mid wq2 (by have := XL.out; have := YL.out; have := G4.out; have := G5.out; have := G6.out; have := HMID.out; have := HMU.out; have := HBV.out; have := HU2.out; have := HV2.out; omega) (by rintro rfl; have := G1.out; simp at this; omega) (by rintro rfl; have := G6.out; simp at this; omega) PX.out.1 PY.out.1
         (fun x hx y hy => c1 x (by rw [HXX.out]; exact List.mem_append_left _ hx) y (by rw [HYY.out]; exact List.mem_append_left _ hy)) (fun x hx y hy => c2 x (by rw [HXX.out]; exact List.mem_append_left _ hx) y (by rw [HYY.out]; exact List.mem_append_left _ hy))
         (by have := HL2.out; simp; omega) HA.out (by have := G1.out; have := HA.out; omega) (by have := G1.out; have := G6.out; have := HA.out; omega) S3.out
        have HCON := Lib.hid hcon; clear hcon
        go_wp2_with fail
        refine HCON.out.mono ?_
        rintro e w2 ⟨rfl, Z1, z3, z4, S4⟩
        have S4' : Aside _ := S4
        have Z3 := Lib.hid z3
        have Z4 := Lib.hid z4
        clear S4 z3 z4
        go_wp2_with fail
        go_meet
        case rel => exact ⟨Z1, Z3, Z4, S4'⟩
      | false =>
        have hno : X1 = [] ∨ Y1 = [] := by
         by_cases h1 : a < j
         · by_cases h2 : j < mid
           · exact absurd (HQ41.out.2 ⟨h1, h2⟩) (by simp)
           · exact Or.inr (List.length_eq_zero_iff.1 (by have := G6.out; omega))
         · exact Or.inl (List.length_eq_zero_iff.1 (by have := G1.out; omega))
        go_wp2_with fail
        go_meet
        case rel =>
         rcases hno with hn0 | hn0
         · refine ⟨Y1, Lib.hid (by rw [hn0]; exact List.Perm.refl _), Lib.hid PY.out.1, ?_⟩
           have := S3.out; rw [hn0] at this; exact this
         · refine ⟨X1, Lib.hid (by rw [hn0, List.append_nil]), Lib.hid PX.out.1, ?_⟩
           have := S3.out; rw [hn0] at this; exact this
    case rest =>
    clear S3
    obtain ⟨Z1, P1, W1, S4⟩ := hcut
    obtain ⟨w2, hw2⟩ : ∃ x, x = wc := ⟨_, rfl⟩
    subst hw2
    have zl : Z1.length = X1.length + Y1.length := by rw [P1.out.length_eq, List.length_append]
    have ZL := Lib.hid zl; clear zl
    by_cases h1 : mid < en
    · by_cases h2 : en < b
      · have z1 : (mid : Int) < (en : Int) := by omega
        have z2 : (en : Int) < (b : Int) := by omega
        have hcon := IH.out (p ++ Z1) X2 Y2 s mid en b w2 (by have := XL.out; have := YL.out; have := G1.out; have := G6.out; have := HMID.out; have := HMU.out; have := HBV.out; have := HU2.out; have := HV2.out; omega) (by rintro rfl; have := G4.out; simp at this; omega) (by rintro rfl; have := G5.out; simp at this; omega) PX.out.2.1 PY.out.2.1
         (fun x hx y hy => c1 x (by rw [HXX.out]; exact List.mem_append_right _ hx) y (by rw [HYY.out]; exact List.mem_append_right _ hy)) (fun x hx y hy => c2 x (by rw [HXX.out]; exact List.mem_append_right _ hx) y (by rw [HYY.out]; exact List.mem_append_right _ hy))
         (by have := HL2.out; have := ZL.out; simp; omega) (by have := G1.out; have := G6.out; have := HA.out; have := ZL.out; simp; omega) (by have := G1.out; have := G4.out; have := G6.out; have := HA.out; have := ZL.out; simp; omega) (by have := G1.out; have := G4.out; have := G5.out; have := G6.out; have := HA.out; have := ZL.out; simp; omega) (by rw [List.append_assoc]; exact S4.out)
        have HCON := Lib.hid hcon; clear hcon
        go_wp2_with fail
        refine HCON.out.mono ?_
        rintro e w3 ⟨rfl, Z2, z3, z4, S5⟩
        have S5' : Aside _ := S5
        have Z3 := Lib.hid z3
        have Z4 := Lib.hid z4
        clear S5 z3 z4
        go_wp2_with fail
        go_end0
        obtain ⟨j1, j2⟩ := sym_join P1.out Z3.out W1.out Z4.out HBE.out
        refine ⟨rfl, Z1 ++ Z2, by rw [HXX.out, HYY.out]; exact j1, j2, ?_⟩
        have := S5'.out; rw [List.append_assoc] at this ⊢; exact this
      · have z1 : (mid : Int) < (en : Int) := by omega
        have z2 : ¬ (en : Int) < (b : Int) := by omega
        have hn0 : Y2 = [] := List.length_eq_zero_iff.1 (by have := G5.out; omega)
        go_wp2_with fail
        go_end0
        obtain ⟨j1, j2⟩ := sym_join P1.out (show X2.Perm (X2 ++ Y2) by rw [hn0, List.append_nil]) W1.out PX.out.2.1 HBE.out
        refine ⟨rfl, Z1 ++ X2, by rw [HXX.out, HYY.out]; exact j1, j2, ?_⟩
        have := S4.out; rw [hn0] at this; rw [List.append_assoc]; exact this
    · have z1 : ¬ (mid : Int) < (en : Int) := by omega
      have hn0 : X2 = [] := List.length_eq_zero_iff.1 (by have := G4.out; omega)
      go_wp2_with fail
      go_end0
      obtain ⟨j1, j2⟩ := sym_join P1.out (show Y2.Perm (X2 ++ Y2) by rw [hn0]; exact List.Perm.refl _) W1.out PY.out.2.1 HBE.out
      refine ⟨rfl, Z1 ++ Y2, by rw [HXX.out, HYY.out]; exact j1, j2, ?_⟩
      have := S4.out; rw [hn0] at this; rw [List.append_assoc]; exact this
theorem symMerge_any {α : Type} [Inhabited α] (enc : α → List Value) (blk off cap N : Nat) (d0 : Array α) (w0 : World) (R : RowK enc 20 w0 blk off d0) (hN : d0.size = N) (hsz : N ≤ 1000000) {cf : α → α → Int} {B : α → α → Prop} (tr : ∀ x y z, B x y → B y z → B x z) (g : Nat) (cb : Array Value) (eg : ∀ args w, (callFunc g args).run Tryz.prog w = .ok (.enter g args) w) (hcmp : CmpLays Tryz.prog g cb enc 20 cf blk off N w0) : ∀ (f : Nat) (p X Y s : List α) (a m b : Nat) (w : World), X.length + Y.length ≤ f → X ≠ [] → Y ≠ [] → X.Pairwise B → Y.Pairwise B → (∀ x ∈ X, ∀ y ∈ Y, cf y x < 0 → B y x) → (∀ x ∈ X, ∀ y ∈ Y, 0 ≤ cf y x → B x y) → N = p.length + X.length + Y.length + s.length → a = p.length → m = p.length + X.length → b = p.length + X.length + Y.length →
 SWK enc 20 w0 blk off (p ++ (X ++ (Y ++ s))).toArray w →
 Calls Tryz.prog 115 #[.slice (some ⟨blk, off, none⟩) N cap, .int .i64 a, .int .i64 m, .int .i64 b, .func (.func g) #[] cb] w fun e w' => e = .returned (.tuple #[]) ∧ ∃ Z, Z.Perm (X ++ Y) ∧ Z.Pairwise B ∧ SWK enc 20 w0 blk off (p ++ (Z ++ s)).toArray w' := by
 intro f
 induction f with
 | zero =>
   intro p X Y s a m b w h hX
   exact absurd (List.length_eq_zero_iff.1 (by omega)) hX
 | succ f ih =>
   intro p X Y s a m b w h hX hY wX wY c1 c2 hl ha hm hb S
   have hx : 0 < X.length := List.length_pos_iff.2 hX
   have hy : 0 < Y.length := List.length_pos_iff.2 hY
   by_cases h1 : X.length = 1
   · obtain ⟨x, rfl⟩ := List.length_eq_one_iff.1 h1
     have := sym_left enc blk off cap N d0 w0 R hN hsz tr g cb eg hcmp p Y s x a m b w wY (fun y hy => c1 x (by simp) y hy) (fun y hy => c2 x (by simp) y hy) (by simpa using hl) ha (by simpa using hm) (by simpa using hb) (by simpa using S)
     simpa using this
   · by_cases h2 : Y.length = 1
     · obtain ⟨y, rfl⟩ := List.length_eq_one_iff.1 h2
       have := sym_right enc blk off cap N d0 w0 R hN hsz tr g cb eg hcmp p X s y a m b w (by omega) wX (fun x hx => c1 x hx y (by simp)) (fun x hx => c2 x hx y (by simp)) (by simpa using hl) ha (by simpa using hm) (by simpa using hb) (by simpa using S)
       simpa using this
     · exact sym_deep enc blk off cap N d0 w0 R hN hsz tr g cb eg hcmp X.length Y.length (fun p' X' Y' s' a' m' b' w' hlt => ih p' X' Y' s' a' m' b' w' (by omega)) p X Y s a m b w rfl rfl (by omega) (by omega) wX wY c1 c2 hl ha hm hb S
end Go.Proofs.YtecnlfaholmpoaaGreat
