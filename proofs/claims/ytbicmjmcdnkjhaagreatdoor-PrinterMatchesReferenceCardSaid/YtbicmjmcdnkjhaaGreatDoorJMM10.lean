/- The names of a condition, put behind a row: pandectref10.formulaNames, startNames. The names of a provision: pandectref10.Names. -/
import Derived.Test.YtbicmjmcdnkjhaaGreatDoorJMM1
import Derived.Test.YtbicmjmcdnkjhaaGreatDoorJMM7
import Derived.Test.YtbicmjmcdnkjhaaGreatDoorJMM9
import Derived.Deep.CutRange
import Derived.StillTailTactics
set_option linter.unusedVariables false
set_option linter.unusedSimpArgs false
set_option maxRecDepth 20000
set_option maxHeartbeats 4000000
namespace Go.Proofs.YtbicmjmcdnkjhaaGreatDoor
open Go.RowKit
def hdF (op : Int) (name : Bytes) : List Bytes := if op = 3 ∨ op = 4 then [name] else []
def hdS (op : Int) (name : Bytes) : List Bytes := if 4 ≤ op ∧ op ≤ 7 then [name] else []
theorem nmF_hd (op : Int) (name : Bytes) (c n : Int) (ks : List TreeI) : nmF (.mk op name c n ks) = hdF op name ++ nmFs ks := by rw [nmF]; rfl
theorem nmS_hd (op : Int) (name : Bytes) (c n : Int) (ks : List TreeI) : nmS (.mk op name c n ks) = hdS op name ++ nmSs ks := by rw [nmS]; rfl
theorem rds_one (w : World) (s : Bytes) (g : Nat) (hg : g = w.heap.size) : RdS (w.alloc (.cells #[vs s] 9)) (some ⟨g, 0, none⟩) [s] := by
 subst hg
 intro _
 refine ⟨_, 0, rfl, by simp, fun k x hx j u hu => ?_⟩
 cases k with
 | succ k => simp at hx
 | zero =>
   cases j with
   | succ j => simp at hu
   | zero =>
     simp at hx hu
     subst hx hu
     exact cOb (heap_alloc_new w _) rfl
theorem nmF_any (W : World) : ∀ (N : Nat) (t : TreeI) (cs : List Value) (w : World) (v : Value) (l : List Bytes), t.size ≤ N → l.length + t.size ≤ 900000 → RdX true W cs t → Below W.heap.size W w → OwnS w W.heap.size v l →
 Calls Tryz.prog 58 #[.agg cs.toArray, v] w fun e w' => ∃ v', e = .returned v' ∧ NmOut W w w' v v' (l ++ nmF t) := by
 intro N
 induction N with
 | zero =>
   intro t cs w v l hN
   have := sizeI_pos t
   omega
 | succ N ih =>
   intro t cs w v l hN hlen hr1 hbw0 hown
   have IH := Hi ih
   obtain ⟨op, name, cm, m, ks⟩ := t
   obtain ⟨A1, p1, rfl, -, hk1⟩ := hr1
   have HK1 := Hi hk1
   simp only [TreeI.size] at hN hlen
   simp only [tcX]
   rw [nmF_hd]
   have HBW0 := Hi hbw0
   have HOWN := Hi hown
   have HB1 : Hid (Below w.heap.size w (w.alloc (.cells #[.int .i64 op, vs name, .int .i64 cm, .int .i64 m, .slice A1 ks.length p1] 24))) := Hi (belowA w _)
   have HOWN1 : Hid (OwnS (w.alloc (.cells #[.int .i64 op, vs name, .int .i64 cm, .int .i64 m, .slice A1 ks.length p1] 24)) W.heap.size v l) := Hi (hown.grown (belowA w _))
   have hvb : ∀ b, v.ownBlock = some b → b < w.heap.size := fun b e => (hown.own b e).2
   have HVB := Hi hvb
   have hbx := heap_alloc_new w (.cells #[.int .i64 op, vs name, .int .i64 cm, .int .i64 m, .slice A1 ks.length p1] 24)
   have HBX := Hi hbx
   have c0 := cOb (o := 0) hbx rfl
   have c1 := cOb (o := 1) hbx rfl
   have hWw := hbw0.size
   obtain ⟨An, nn, cap, rfl⟩ := hown.sl
   clear ih hk1 hbw0 hown hvb hbx
   have hksn := kidsI_le ks
   go_enter Tryz.func58, Tryz.ntmps58
   go_upto_region 1 with fail
   go_cut [1, 2, 13] from 0 (fun s1 s2 s13 wc => s1 = .slice An nn cap ∧ s2 = .pointer (some ⟨w.heap.size, 0, none⟩) ∧ s13 = .bool (decide (op = 3 ∨ op = 4)) ∧ wc = w.alloc (.cells #[.int .i64 op, vs name, .int .i64 cm, .int .i64 m, .slice A1 ks.length p1] 24))
   case first =>
    have hop : op = 3 ∨ op = 4 ∨ (¬ op = 3 ∧ ¬ op = 4) := by omega
    rcases hop with rfl | rfl | ⟨hop3, hop4⟩
    all_goals
     go_wp2_with fail
     go_meet
     case rel => exact ⟨rfl, rfl, congrArg Value.bool (by rw [Bool.eq_iff_iff]; first | (simp; done) | (simp; omega)), rfl⟩
   case rest =>
   obtain ⟨rfl, rfl, rfl, rfl⟩ := hcut
   go_upto_if 13 with fail
   go_cut [1, 2] from 0 (fun s1 s2 wc => s2 = .pointer (some ⟨w.heap.size, 0, none⟩) ∧ NmOut W (w.alloc (.cells #[.int .i64 op, vs name, .int .i64 cm, .int .i64 m, .slice A1 ks.length p1] 24)) wc (.slice An nn cap) s1 (l ++ hdF op name))
   case first =>
    by_cases hop : op = 3 ∨ op = 4
    · have hd : decide (op = 3 ∨ op = 4) = true := decide_eq_true hop
      go_wp2_with (at_builtin; refine wpList_append_src rfl (.tmp 14) (.tmp 17) rfl W.heap.size _ l [name] _ 1 rfl rfl (HOWN1.out.grown (belowA _ _)) (rds_one _ _ _ (by simp)) (by simp; omega) (by simp; omega) ?_; intro v' w2 ho hg hb; have HNM := Hi (NmOut.of_new (belowA _ _) (NmOut.mk ho hg (hb.imp id (fun e => Exists.intro _ (And.intro e (lR _)))))); obtain ⟨Av, nv, cv, rfl⟩ := ho.sl; have e1 := HNM.out.blk HBX.out (fun e => Nat.lt_irrefl _ (HVB.out _ e)); have l1 := lHp e1; clear ho hg hb c0 c1 e1)
      go_meet
      case rel => exact ⟨rfl, by unfold hdF; rw [if_pos hop]; exact HNM.out⟩
    · have hd : decide (op = 3 ∨ op = 4) = false := decide_eq_false hop
      go_wp2_with fail
      go_meet
      case rel => exact ⟨rfl, by unfold hdF; rw [if_neg hop]; rw [List.append_nil]; exact NmOut.refl HOWN1.out⟩
   case rest =>
    obtain ⟨rfl, hno⟩ := hcut
    have HNO := Hi hno
    clear hno c0 c1
    go_wp2_with fail
    go_loopw [1, 5] (fun v1 v5 wr => ∃ k : Nat, k ≤ ks.length ∧ v5 = .int .i64 k ∧ NmOut W (w.alloc (.cells #[.int .i64 op, vs name, .int .i64 cm, .int .i64 m, .slice A1 ks.length p1] 24)) wr (.slice An nn cap) v1 (l ++ hdF op name ++ nmFs (ks.take k))) (fun _ v5 _ => ks.length - (intOf v5).toNat)
    case atStart => exact ⟨0, Nat.zero_le _, rfl, by rw [List.take_zero, nmFs, List.append_nil]; exact HNO.out⟩
    case round =>
     obtain ⟨k, hk, rfl, hno⟩ := hrel
     have e1 := hno.blk HBX.out (fun e => Nat.lt_irrefl _ (HVB.out _ e))
     have c1 : wr.cell? ⟨w.heap.size, 4, none⟩ = some (.slice A1 ks.length p1) := cOb (o := 4) e1 rfl
     have l1 := lHp e1
     have hbw : Below W.heap.size W wr := hno.below HOWN1.out (HBW0.out.trans (HB1.out.mono hWw))
     have HBW := Hi hbw
     have HN1 := Hi hno
     obtain ⟨Av, nv, cv, rfl⟩ := hno.own.sl
     clear hno e1 hbw HNO
     by_cases hlt : k < ks.length
     · obtain ⟨x, hx⟩ := gLt hlt
       have hk1 : (k : Int) < ks.length := by omega
       have hk0 : (0 : Int) ≤ k := by omega
       have hxs := memI_size hx
       have hne : ks ≠ [] := by rintro rfl; simp at hlt
       obtain ⟨b1, o1, rfl, hb1, hkd1⟩ := HK1.out.resolve_left hne
       obtain ⟨xs1, hc1, ht1⟩ := hkd1.get hx
       have hsn := nmFs_snoc hx
       have hln : (l ++ hdF op name ++ nmFs (ks.take k)).length + x.size ≤ 900000 := by
        have h1 := nmFs_len (ks.take k)
        have h2 := sizesI_snoc hx
        have h3 : (hdF op name).length ≤ 1 := by unfold hdF; split <;> simp
        simp only [List.length_append]
        omega
       have HIH : Hid (Calls Tryz.prog 58 #[.agg xs1.toArray, .slice Av nv cv] wr fun e w' => ∃ v', e = .returned v' ∧ NmOut W wr w' (.slice Av nv cv) v' (l ++ hdF op name ++ nmFs (ks.take k) ++ nmF x)) := Hi (IH.out x xs1 wr _ _ (by omega) hln ht1 HBW.out HN1.out.own)
       have HSN := Hi hsn
       obtain ⟨o0, n0, d0, m0, ks0⟩ := x
       obtain ⟨B1, q1, rfl, -, -⟩ := ht1
       simp only [tcX] at HIH
       have z10 : wr.cell? ⟨b1, o1 + k * 5, none⟩ = some (.int .i64 o0) := (HBW.out.cell (p := ⟨b1, o1 + k * 5, none⟩) hb1).trans (hc1 0 _ rfl)
       have z11 : wr.cell? ⟨b1, o1 + k * 5 + 1, none⟩ = some (vs n0) := (HBW.out.cell (p := ⟨b1, o1 + k * 5 + 1, none⟩) hb1).trans (hc1 1 _ rfl)
       have z12 : wr.cell? ⟨b1, o1 + k * 5 + 2, none⟩ = some (.int .i64 d0) := (HBW.out.cell (p := ⟨b1, o1 + k * 5 + 2, none⟩) hb1).trans (hc1 2 _ rfl)
       have z13 : wr.cell? ⟨b1, o1 + k * 5 + 3, none⟩ = some (.int .i64 m0) := (HBW.out.cell (p := ⟨b1, o1 + k * 5 + 3, none⟩) hb1).trans (hc1 3 _ rfl)
       have z14 : wr.cell? ⟨b1, o1 + k * 5 + 4, none⟩ = some (.slice B1 ks0.length q1) := (HBW.out.cell (p := ⟨b1, o1 + k * 5 + 4, none⟩) hb1).trans (hc1 4 _ rfl)
       have hb1' : b1 < wr.heap.size := by have := HBW.out.size; omega
       clear hc1 hkd1 hx hxs hne hsn hln
       go_wp2_with fail
       refine HIH.out.mono ?_
       rintro e w2 ⟨v2, rfl, hno2⟩
       have HNO2 := Hi hno2
       clear hno2 c1 z10 z11 z12 z13 z14
       go_wp2_with fail
       exact ⟨⟨k + 1, by omega, by go_num, by rw [HSN.out, ← List.append_assoc]; exact HN1.out.trans HNO2.out⟩, by simp [intOf]; omega⟩
     · have hk' : k = ks.length := by omega
       subst hk'
       have hlt2 : ¬ ((ks.length : Nat) : Int) < ks.length := by omega
       have HN2 : Hid (NmOut W w wr (.slice An nn cap) (.slice Av nv cv) (l ++ (hdF op name ++ nmFs ks))) := Hi (by
        have := NmOut.of_new HB1.out HN1.out
        rwa [List.take_length, List.append_assoc] at this)
       clear HN1
       go_wp2_with fail
       go_ret
       exact ⟨_, rfl, HN2.out⟩
theorem nmS_any (W : World) : ∀ (N : Nat) (t : TreeI) (cs : List Value) (w : World) (v : Value) (l : List Bytes), t.size ≤ N → l.length + t.size ≤ 900000 → RdX false W cs t → Below W.heap.size W w → OwnS w W.heap.size v l →
 Calls Tryz.prog 59 #[.agg cs.toArray, v] w fun e w' => ∃ v', e = .returned v' ∧ NmOut W w w' v v' (l ++ nmS t) := by
 intro N
 induction N with
 | zero =>
   intro t cs w v l hN
   have := sizeI_pos t
   omega
 | succ N ih =>
   intro t cs w v l hN hlen hr1 hbw0 hown
   have IH := Hi ih
   obtain ⟨op, name, cm, m, ks⟩ := t
   obtain ⟨A1, p1, rfl, -, hk1⟩ := hr1
   have HK1 := Hi hk1
   simp only [TreeI.size] at hN hlen
   simp only [tcX]
   rw [nmS_hd]
   have HBW0 := Hi hbw0
   have HOWN := Hi hown
   have HB1 : Hid (Below w.heap.size w (w.alloc (.cells #[.int .i64 op, vs name, .int .i64 m, .slice A1 ks.length p1] 28))) := Hi (belowA w _)
   have HOWN1 : Hid (OwnS (w.alloc (.cells #[.int .i64 op, vs name, .int .i64 m, .slice A1 ks.length p1] 28)) W.heap.size v l) := Hi (hown.grown (belowA w _))
   have hvb : ∀ b, v.ownBlock = some b → b < w.heap.size := fun b e => (hown.own b e).2
   have HVB := Hi hvb
   have hbx := heap_alloc_new w (.cells #[.int .i64 op, vs name, .int .i64 m, .slice A1 ks.length p1] 28)
   have HBX := Hi hbx
   have c0 := cOb (o := 0) hbx rfl
   have c1 := cOb (o := 1) hbx rfl
   have hWw := hbw0.size
   obtain ⟨An, nn, cap, rfl⟩ := hown.sl
   clear ih hk1 hbw0 hown hvb hbx
   have hksn := kidsI_le ks
   go_enter Tryz.func59, Tryz.ntmps59
   go_upto_region 1 with fail
   go_cut [1, 2, 13] from 0 (fun s1 s2 s13 wc => s1 = .slice An nn cap ∧ s2 = .pointer (some ⟨w.heap.size, 0, none⟩) ∧ s13 = .bool (decide (4 ≤ op ∧ op ≤ 7)) ∧ wc = w.alloc (.cells #[.int .i64 op, vs name, .int .i64 m, .slice A1 ks.length p1] 28))
   case first =>
    have hop : (4 ≤ op ∧ op ≤ 7) ∨ op < 4 ∨ 7 < op := by omega
    rcases hop with ⟨hop3, hop4⟩ | hop3 | hop3
    all_goals
     go_wp2_with fail
     go_meet
     case rel => exact ⟨rfl, rfl, congrArg Value.bool (by rw [Bool.eq_iff_iff]; first | (simp; done) | (simp; omega)), rfl⟩
   case rest =>
   obtain ⟨rfl, rfl, rfl, rfl⟩ := hcut
   go_upto_if 13 with fail
   go_cut [1, 2] from 0 (fun s1 s2 wc => s2 = .pointer (some ⟨w.heap.size, 0, none⟩) ∧ NmOut W (w.alloc (.cells #[.int .i64 op, vs name, .int .i64 m, .slice A1 ks.length p1] 28)) wc (.slice An nn cap) s1 (l ++ hdS op name))
   case first =>
    by_cases hop : 4 ≤ op ∧ op ≤ 7
    · have hd : decide (4 ≤ op ∧ op ≤ 7) = true := decide_eq_true hop
      go_wp2_with (at_builtin; refine wpList_append_src rfl (.tmp 14) (.tmp 17) rfl W.heap.size _ l [name] _ 1 rfl rfl (HOWN1.out.grown (belowA _ _)) (rds_one _ _ _ (by simp)) (by simp; omega) (by simp; omega) ?_; intro v' w2 ho hg hb; have HNM := Hi (NmOut.of_new (belowA _ _) (NmOut.mk ho hg (hb.imp id (fun e => Exists.intro _ (And.intro e (lR _)))))); obtain ⟨Av, nv, cv, rfl⟩ := ho.sl; have e1 := HNM.out.blk HBX.out (fun e => Nat.lt_irrefl _ (HVB.out _ e)); have l1 := lHp e1; clear ho hg hb c0 c1 e1)
      go_meet
      case rel => exact ⟨rfl, by unfold hdS; rw [if_pos hop]; exact HNM.out⟩
    · have hd : decide (4 ≤ op ∧ op ≤ 7) = false := decide_eq_false hop
      go_wp2_with fail
      go_meet
      case rel => exact ⟨rfl, by unfold hdS; rw [if_neg hop]; rw [List.append_nil]; exact NmOut.refl HOWN1.out⟩
   case rest =>
    obtain ⟨rfl, hno⟩ := hcut
    have HNO := Hi hno
    clear hno c0 c1
    go_wp2_with fail
    go_loopw [1, 5] (fun v1 v5 wr => ∃ k : Nat, k ≤ ks.length ∧ v5 = .int .i64 k ∧ NmOut W (w.alloc (.cells #[.int .i64 op, vs name, .int .i64 m, .slice A1 ks.length p1] 28)) wr (.slice An nn cap) v1 (l ++ hdS op name ++ nmSs (ks.take k))) (fun _ v5 _ => ks.length - (intOf v5).toNat)
    case atStart => exact ⟨0, Nat.zero_le _, rfl, by rw [List.take_zero, nmSs, List.append_nil]; exact HNO.out⟩
    case round =>
     obtain ⟨k, hk, rfl, hno⟩ := hrel
     have e1 := hno.blk HBX.out (fun e => Nat.lt_irrefl _ (HVB.out _ e))
     have c1 : wr.cell? ⟨w.heap.size, 3, none⟩ = some (.slice A1 ks.length p1) := cOb (o := 3) e1 rfl
     have l1 := lHp e1
     have hbw : Below W.heap.size W wr := hno.below HOWN1.out (HBW0.out.trans (HB1.out.mono hWw))
     have HBW := Hi hbw
     have HN1 := Hi hno
     obtain ⟨Av, nv, cv, rfl⟩ := hno.own.sl
     clear hno e1 hbw HNO
     by_cases hlt : k < ks.length
     · obtain ⟨x, hx⟩ := gLt hlt
       have hk1 : (k : Int) < ks.length := by omega
       have hk0 : (0 : Int) ≤ k := by omega
       have hxs := memI_size hx
       have hne : ks ≠ [] := by rintro rfl; simp at hlt
       obtain ⟨b1, o1, rfl, hb1, hkd1⟩ := HK1.out.resolve_left hne
       obtain ⟨xs1, hc1, ht1⟩ := hkd1.get hx
       have hsn := nmSs_snoc hx
       have hln : (l ++ hdS op name ++ nmSs (ks.take k)).length + x.size ≤ 900000 := by
        have h1 := nmSs_len (ks.take k)
        have h2 := sizesI_snoc hx
        have h3 : (hdS op name).length ≤ 1 := by unfold hdS; split <;> simp
        simp only [List.length_append]
        omega
       have HIH : Hid (Calls Tryz.prog 59 #[.agg xs1.toArray, .slice Av nv cv] wr fun e w' => ∃ v', e = .returned v' ∧ NmOut W wr w' (.slice Av nv cv) v' (l ++ hdS op name ++ nmSs (ks.take k) ++ nmS x)) := Hi (IH.out x xs1 wr _ _ (by omega) hln ht1 HBW.out HN1.out.own)
       have HSN := Hi hsn
       obtain ⟨o0, n0, d0, m0, ks0⟩ := x
       obtain ⟨B1, q1, rfl, -, -⟩ := ht1
       simp only [tcX] at HIH
       have z10 : wr.cell? ⟨b1, o1 + k * 4, none⟩ = some (.int .i64 o0) := (HBW.out.cell (p := ⟨b1, o1 + k * 4, none⟩) hb1).trans (hc1 0 _ rfl)
       have z11 : wr.cell? ⟨b1, o1 + k * 4 + 1, none⟩ = some (vs n0) := (HBW.out.cell (p := ⟨b1, o1 + k * 4 + 1, none⟩) hb1).trans (hc1 1 _ rfl)
       have z12 : wr.cell? ⟨b1, o1 + k * 4 + 2, none⟩ = some (.int .i64 m0) := (HBW.out.cell (p := ⟨b1, o1 + k * 4 + 2, none⟩) hb1).trans (hc1 2 _ rfl)
       have z13 : wr.cell? ⟨b1, o1 + k * 4 + 3, none⟩ = some (.slice B1 ks0.length q1) := (HBW.out.cell (p := ⟨b1, o1 + k * 4 + 3, none⟩) hb1).trans (hc1 3 _ rfl)
       have hb1' : b1 < wr.heap.size := by have := HBW.out.size; omega
       clear hc1 hkd1 hx hxs hne hsn hln
       go_wp2_with fail
       refine HIH.out.mono ?_
       rintro e w2 ⟨v2, rfl, hno2⟩
       have HNO2 := Hi hno2
       clear hno2 c1 z10 z11 z12 z13
       go_wp2_with fail
       exact ⟨⟨k + 1, by omega, by go_num, by rw [HSN.out, ← List.append_assoc]; exact HN1.out.trans HNO2.out⟩, by simp [intOf]; omega⟩
     · have hk' : k = ks.length := by omega
       subst hk'
       have hlt2 : ¬ ((ks.length : Nat) : Int) < ks.length := by omega
       have HN2 : Hid (NmOut W w wr (.slice An nn cap) (.slice Av nv cv) (l ++ (hdS op name ++ nmSs ks))) := Hi (by
        have := NmOut.of_new HB1.out HN1.out
        rwa [List.take_length, List.append_assoc] at this)
       clear HN1
       go_wp2_with fail
       go_ret
       exact ⟨_, rfl, HN2.out⟩
end Go.Proofs.YtbicmjmcdnkjhaaGreatDoor
set_option maxRecDepth 100000
set_option maxHeartbeats 4000000
namespace Go.Proofs.YtbicmjmcdnkjhaaGreatDoor
open Go.RowKit
/- a row of the call's own, from world to world -/
structure NmSt (w wx : World) (pb : Nat) (O : Obj) (v : Value) (l : List Bytes) : Prop where
 own : OwnS wx w.heap.size v l
 below : Below w.heap.size w wx
 blk : wx.heap[pb]? = some O
 ne : v.ownBlock ≠ some pb
theorem NmSt.step {w w1 w2 : World} {pb : Nat} {O : Obj} {v v' : Value} {l l' : List Bytes} (h : NmSt w w1 pb O v l) (hn : NmOut w w1 w2 v v' l') : NmSt w w2 pb O v' l' := by
 refine ⟨hn.own, hn.below h.own h.below, hn.blk h.blk h.ne, ?_⟩
 rcases hn.at' with e | ⟨b, e, hb⟩
 · rw [e]; exact h.ne
 · rw [e]
   intro e'
   injection e' with e'
   have := lHp h.blk
   omega
theorem NmSt.drew {w w1 : World} {pb : Nat} {O : Obj} {v : Value} {l : List Bytes} (h : NmSt w w1 pb O v l) : NmSt w w1.drew pb O v l := ⟨h.own.keep (fun _ _ _ => rfl), h.below.drew, h.blk, h.ne⟩
theorem names_st {w wx : World} {pb : Nat} {O : Obj} {v : Value} {l : List Bytes} (h : NmSt w wx pb O v l) {t : TreeI} {cs : List Value} (hr : RdX false w cs t) (hl : l.length + t.size ≤ 900000) :
 Calls Tryz.prog 59 #[.agg cs.toArray, v] wx fun e w' => ∃ v', e = .returned v' ∧ NmSt w w' pb O v' (l ++ nmS t) := by
 refine (nmS_any w _ t cs wx v l (lR _) hl hr h.below h.own).mono ?_
 rintro e w' ⟨v', rfl, hn⟩
 exact ⟨v', rfl, h.step hn⟩
theorem names_fm {w wx : World} {pb : Nat} {O : Obj} {v : Value} {l : List Bytes} (h : NmSt w wx pb O v l) {t : TreeI} {cs : List Value} (hr : RdX true w cs t) (hl : l.length + t.size ≤ 900000) :
 Calls Tryz.prog 58 #[.agg cs.toArray, v] wx fun e w' => ∃ v', e = .returned v' ∧ NmSt w w' pb O v' (l ++ nmF t) := by
 refine (nmF_any w _ t cs wx v l (lR _) hl hr h.below h.own).mono ?_
 rintro e w' ⟨v', rfl, hn⟩
 exact ⟨v', rfl, h.step hn⟩
theorem own2 (w : World) (base : Nat) (hb : base ≤ w.heap.size) (s u : Bytes) (g : Nat) (hg : g = w.heap.size) : OwnS (w.alloc (.cells #[vs s, vs u] 9)) base (.slice (some ⟨g, 0, none⟩) 2 2) [s, u] := by
 subst hg
 exact World.ownsRow_lit w #[vs s, vs u] 2 hb (by decide) rfl
theorem nm_start (w : World) (C : Array Value) (T : TypeId) (a b : Bytes) (v1 : Value) (w2 : World) (L : List Bytes) (ho : OwnS w2 w.heap.size v1 L) (hg : ((w.alloc (.cells C T)).alloc (.cells #[vs a, vs b] 9)).grownBy w2 (Value.ownBlock (.slice (some ⟨w.heap.size + 1, 0, none⟩) 2 2)))
 (hb : v1.ownBlock = Value.ownBlock (.slice (some ⟨w.heap.size + 1, 0, none⟩) 2 2) ∨ v1.ownBlock = some ((w.alloc (.cells C T)).alloc (.cells #[vs a, vs b] 9)).heap.size) : NmSt w w2 w.heap.size (.cells C T (0, 0)) v1 L := by
 have hx : Below w.heap.size w ((w.alloc (.cells C T)).alloc (.cells #[vs a, vs b] 9)) := (belowA w _).alloc (by simp) _
 have e0 : Value.ownBlock (.slice (some ⟨w.heap.size + 1, 0, none⟩) 2 2) = some (w.heap.size + 1) := rfl
 rw [e0] at hg hb
 refine ⟨ho, hx.trans ⟨hg.os, hg.tape, hg.output, hg.size, fun i hi => hg.block i (by simp; omega) (fun e => by injection e; omega)⟩, ?_, ?_⟩
 · refine (hg.block w.heap.size (by simp; omega) (fun e => by injection e; omega)).trans ?_
   exact (Below.heap_alloc _ _ _ (by simp)).trans (heap_alloc_new w _)
 · intro e
   rcases hb with h | h
   · rw [h] at e; injection e; omega
   · rw [h] at e; simp at e; omega
theorem names_any (w : World) (cs : List Value) (p : ProvI) (hr : RdPX w cs p) (h1 : p.cond.size ≤ 10000) (h2 : p.beg.size ≤ 10000) (h3 : p.fin.size ≤ 10000) (h4 : p.aga.size ≤ 10000) (h5 : p.exc.length ≤ 10000) :
 Calls Tryz.prog 25 #[.agg cs.toArray] w fun e w' => ∃ v', e = .returned v' ∧ OwnS w' w.heap.size v' (namesI p) ∧ Below w.heap.size w w' := by
 obtain ⟨id, rank, kind, name, value, cond, exc, beg, fin, aga⟩ := p
 obtain ⟨cc, A, cap, cb, cf, ca, hcs, hcap, hcc, hex, hcb, hcf, hca⟩ := hr
 simp only at hcs hcap hcc hex hcb hcf hca h1 h2 h3 h4 h5
 have RC := Hi hcc
 have RB := Hi hcb
 have RD := Hi hcf
 have RG := Hi hca
 have HNI : Hid (namesI ⟨id, rank, kind, name, value, cond, exc, beg, fin, aga⟩ = [id, name] ++ exc ++ nmF cond ++ nmS beg ++ nmS fin ++ nmS aga) := Hi (by unfold namesI; simp)
 have lC := nmF_len cond
 have lB := nmS_len beg
 have lD := nmS_len fin
 have lG := nmS_len aga
 rw [HNI.out]
 obtain ⟨L1, hL1⟩ : ∃ L1, [id, name] ++ exc = L1 := ⟨_, rfl⟩
 obtain ⟨L2, hL2⟩ : ∃ L2, L1 ++ nmF cond = L2 := ⟨_, rfl⟩
 obtain ⟨L3, hL3⟩ : ∃ L3, L2 ++ nmS beg = L3 := ⟨_, rfl⟩
 obtain ⟨L4, hL4⟩ : ∃ L4, L3 ++ nmS fin = L4 := ⟨_, rfl⟩
 obtain ⟨L5, hL5⟩ : ∃ L5, L4 ++ nmS aga = L5 := ⟨_, rfl⟩
 have k1 : L1.length ≤ 10002 := by rw [← hL1]; simp; omega
 have k2 : L2.length ≤ 20002 := by rw [← hL2, List.length_append]; omega
 have k3 : L3.length ≤ 30002 := by rw [← hL3, List.length_append]; omega
 have k4 : L4.length ≤ 40002 := by rw [← hL4, List.length_append]; omega
 rw [hL1, hL2, hL3, hL4, hL5]
 have HC1 : Hid (∀ (pb : Nat) (O : Obj) (wx : World) (v : Value), NmSt w wx pb O v L1 → Calls Tryz.prog 58 #[.agg cc.toArray, v] wx fun e w' => ∃ v', e = .returned v' ∧ NmSt w w' pb O v' L2) := Hi (fun pb O wx v h => by rw [← hL2]; exact names_fm h RC.out (by omega))
 have HC2 : Hid (∀ (pb : Nat) (O : Obj) (wx : World) (v : Value), NmSt w wx pb O v L2 → Calls Tryz.prog 59 #[.agg cb.toArray, v] wx fun e w' => ∃ v', e = .returned v' ∧ NmSt w w' pb O v' L3) := Hi (fun pb O wx v h => by rw [← hL3]; exact names_st h RB.out (by omega))
 have HC3 : Hid (∀ (pb : Nat) (O : Obj) (wx : World) (v : Value), NmSt w wx pb O v L3 → Calls Tryz.prog 59 #[.agg cf.toArray, v] wx fun e w' => ∃ v', e = .returned v' ∧ NmSt w w' pb O v' L4) := Hi (fun pb O wx v h => by rw [← hL4]; exact names_st h RD.out (by omega))
 have HC4 : Hid (∀ (pb : Nat) (O : Obj) (wx : World) (v : Value), NmSt w wx pb O v L4 → Calls Tryz.prog 59 #[.agg ca.toArray, v] wx fun e w' => ∃ v', e = .returned v' ∧ NmSt w w' pb O v' L5) := Hi (fun pb O wx v h => by rw [← hL5]; exact names_st h RG.out (by omega))
 have HEX := Hi hex
 have HL1 := Hi hL1
 obtain ⟨oC, nC, dC, mC, ksC⟩ := cond
 obtain ⟨KC, qC, rfl, -⟩ := hcc
 obtain ⟨oB, nB, dB, mB, ksB⟩ := beg
 obtain ⟨KB, qB, rfl, -⟩ := hcb
 obtain ⟨oD, nD, dD, mD, ksD⟩ := fin
 obtain ⟨KD, qD, rfl, -⟩ := hcf
 obtain ⟨oG, nG, dG, mG, ksG⟩ := aga
 obtain ⟨KG, qG, rfl, -⟩ := hca
 subst hcs
 simp only [tcX, List.cons_append, List.nil_append] at HC1 HC2 HC3 HC4 ⊢
 clear RC RB RD RG hex hL1 hL2 hL3 hL4 hL5 HNI lC lB lD lG h1 h2 h3 h4
 have hbx := heap_alloc_new w (.cells #[vs id, .int .i64 rank, .int .i64 kind, vs name, .int .i64 value, .int .i64 oC, vs nC, .int .i64 dC, .int .i64 mC, .slice KC ksC.length qC, .slice A exc.length cap, .int .i64 oB, vs nB, .int .i64 mB, .slice KB ksB.length qB, .int .i64 oD, vs nD, .int .i64 mD, .slice KD ksD.length qD, .int .i64 oG, vs nG, .int .i64 mG, .slice KG ksG.length qG] 30)
 have HBX := Hi hbx
 have c0 := cOb (o := 0) hbx rfl
 have c3 := cOb (o := 3) hbx rfl
 have c10 := cOb (o := 10) hbx rfl
 have HB1 : Hid (Below w.heap.size w (w.alloc (.cells #[vs id, .int .i64 rank, .int .i64 kind, vs name, .int .i64 value, .int .i64 oC, vs nC, .int .i64 dC, .int .i64 mC, .slice KC ksC.length qC, .slice A exc.length cap, .int .i64 oB, vs nB, .int .i64 mB, .slice KB ksB.length qB, .int .i64 oD, vs nD, .int .i64 mD, .slice KD ksD.length qD, .int .i64 oG, vs nG, .int .i64 mG, .slice KG ksG.length qG] 30))) := Hi (belowA w _)
 clear hbx
 go_enter Tryz.func25, Tryz.ntmps25
 go_wp2_with (at_builtin; refine wpList_append_src rfl (.tmp 8) (.tmp 10) rfl w.heap.size _ [id, name] exc A cap rfl rfl (own2 _ _ (by simp) _ _ _ (by simp)) (HEX.out.below ((belowA w _).alloc (by simp) _)) (by simp; omega) (by simp; omega) ?_; intro v1 w2 ho hg hb; have HST := Hi (nm_start w _ _ _ _ _ _ _ ho hg hb); obtain ⟨A1, n1, c1, rfl⟩ := ho.sl; clear ho hg hb c0 c3 c10; have c5 := cOb (o := 5) HST.out.blk rfl; have c6 := cOb (o := 6) HST.out.blk rfl; have c7 := cOb (o := 7) HST.out.blk rfl; have c8 := cOb (o := 8) HST.out.blk rfl; have c9 := cOb (o := 9) HST.out.blk rfl; have cl := lHp HST.out.blk)
 rw [HL1.out] at HST
 refine (HC1.out _ _ _ _ HST.out).mono ?_
 rintro e x2 ⟨v2, rfl, hst⟩
 obtain ⟨A2, n2, c2, rfl⟩ := hst.own.sl
 clear c5 c6 c7 c8 c9 cl HST
 have HS2 := Hi hst
 have c11 : x2.cell? ⟨w.heap.size, 11, none⟩ = some (.int .i64 oB) := cOb (o := 11) hst.blk rfl
 have c12 : x2.cell? ⟨w.heap.size, 12, none⟩ = some (vs nB) := cOb (o := 12) hst.blk rfl
 have c13 : x2.cell? ⟨w.heap.size, 13, none⟩ = some (.int .i64 mB) := cOb (o := 13) hst.blk rfl
 have c14 : x2.cell? ⟨w.heap.size, 14, none⟩ = some (.slice KB ksB.length qB) := cOb (o := 14) hst.blk rfl
 have c15 : x2.cell? ⟨w.heap.size, 15, none⟩ = some (.int .i64 oD) := cOb (o := 15) hst.blk rfl
 have c16 : x2.cell? ⟨w.heap.size, 16, none⟩ = some (vs nD) := cOb (o := 16) hst.blk rfl
 have c17 : x2.cell? ⟨w.heap.size, 17, none⟩ = some (.int .i64 mD) := cOb (o := 17) hst.blk rfl
 have c18 : x2.cell? ⟨w.heap.size, 18, none⟩ = some (.slice KD ksD.length qD) := cOb (o := 18) hst.blk rfl
 have c19 : x2.cell? ⟨w.heap.size, 19, none⟩ = some (.int .i64 oG) := cOb (o := 19) hst.blk rfl
 have c20 : x2.cell? ⟨w.heap.size, 20, none⟩ = some (vs nG) := cOb (o := 20) hst.blk rfl
 have c21 : x2.cell? ⟨w.heap.size, 21, none⟩ = some (.int .i64 mG) := cOb (o := 21) hst.blk rfl
 have c22 : x2.cell? ⟨w.heap.size, 22, none⟩ = some (.slice KG ksG.length qG) := cOb (o := 22) hst.blk rfl
 have cl := lHp hst.blk
 clear hst
 go_upto_region 3 with fail
 go_region_held3 (fun w' => w'.cell? ⟨w.heap.size, 11, none⟩ = some (.int .i64 oB) ∧ w'.cell? ⟨w.heap.size, 12, none⟩ = some (vs nB) ∧ w'.cell? ⟨w.heap.size, 13, none⟩ = some (.int .i64 mB) ∧ w'.cell? ⟨w.heap.size, 14, none⟩ = some (.slice KB ksB.length qB) ∧ w'.cell? ⟨w.heap.size, 15, none⟩ = some (.int .i64 oD) ∧ w'.cell? ⟨w.heap.size, 16, none⟩ = some (vs nD) ∧ w'.cell? ⟨w.heap.size, 17, none⟩ = some (.int .i64 mD) ∧ w'.cell? ⟨w.heap.size, 18, none⟩ = some (.slice KD ksD.length qD) ∧ w'.cell? ⟨w.heap.size, 19, none⟩ = some (.int .i64 oG) ∧ w'.cell? ⟨w.heap.size, 20, none⟩ = some (vs nG) ∧ w'.cell? ⟨w.heap.size, 21, none⟩ = some (.int .i64 mG) ∧ w'.cell? ⟨w.heap.size, 22, none⟩ = some (.slice KG ksG.length qG)) (go_keep) ((first | (go_at_call 59; (with_reducible refine (HC2.out _ _ _ _ HS2.out.drew).mono ?_); rintro e x3 ⟨v3, rfl, hst⟩; obtain ⟨Ax3, nx3, kx3, rfl⟩ := hst.own.sl; have dx311 : x3.cell? ⟨w.heap.size, 11, none⟩ = some (.int .i64 oB) := cOb (o := 11) hst.blk rfl; have dx312 : x3.cell? ⟨w.heap.size, 12, none⟩ = some (vs nB) := cOb (o := 12) hst.blk rfl; have dx313 : x3.cell? ⟨w.heap.size, 13, none⟩ = some (.int .i64 mB) := cOb (o := 13) hst.blk rfl; have dx314 : x3.cell? ⟨w.heap.size, 14, none⟩ = some (.slice KB ksB.length qB) := cOb (o := 14) hst.blk rfl; have dx315 : x3.cell? ⟨w.heap.size, 15, none⟩ = some (.int .i64 oD) := cOb (o := 15) hst.blk rfl; have dx316 : x3.cell? ⟨w.heap.size, 16, none⟩ = some (vs nD) := cOb (o := 16) hst.blk rfl; have dx317 : x3.cell? ⟨w.heap.size, 17, none⟩ = some (.int .i64 mD) := cOb (o := 17) hst.blk rfl; have dx318 : x3.cell? ⟨w.heap.size, 18, none⟩ = some (.slice KD ksD.length qD) := cOb (o := 18) hst.blk rfl; have dx319 : x3.cell? ⟨w.heap.size, 19, none⟩ = some (.int .i64 oG) := cOb (o := 19) hst.blk rfl; have dx320 : x3.cell? ⟨w.heap.size, 20, none⟩ = some (vs nG) := cOb (o := 20) hst.blk rfl; have dx321 : x3.cell? ⟨w.heap.size, 21, none⟩ = some (.int .i64 mG) := cOb (o := 21) hst.blk rfl; have dx322 : x3.cell? ⟨w.heap.size, 22, none⟩ = some (.slice KG ksG.length qG) := cOb (o := 22) hst.blk rfl; have Hx3 := Hi hst; clear hst) | (go_at_call 59; (with_reducible refine (HC3.out _ _ _ _ Hx3.out).mono ?_); rintro e x4 ⟨v4, rfl, hst⟩; obtain ⟨Ax4, nx4, kx4, rfl⟩ := hst.own.sl; have dx411 : x4.cell? ⟨w.heap.size, 11, none⟩ = some (.int .i64 oB) := cOb (o := 11) hst.blk rfl; have dx412 : x4.cell? ⟨w.heap.size, 12, none⟩ = some (vs nB) := cOb (o := 12) hst.blk rfl; have dx413 : x4.cell? ⟨w.heap.size, 13, none⟩ = some (.int .i64 mB) := cOb (o := 13) hst.blk rfl; have dx414 : x4.cell? ⟨w.heap.size, 14, none⟩ = some (.slice KB ksB.length qB) := cOb (o := 14) hst.blk rfl; have dx415 : x4.cell? ⟨w.heap.size, 15, none⟩ = some (.int .i64 oD) := cOb (o := 15) hst.blk rfl; have dx416 : x4.cell? ⟨w.heap.size, 16, none⟩ = some (vs nD) := cOb (o := 16) hst.blk rfl; have dx417 : x4.cell? ⟨w.heap.size, 17, none⟩ = some (.int .i64 mD) := cOb (o := 17) hst.blk rfl; have dx418 : x4.cell? ⟨w.heap.size, 18, none⟩ = some (.slice KD ksD.length qD) := cOb (o := 18) hst.blk rfl; have dx419 : x4.cell? ⟨w.heap.size, 19, none⟩ = some (.int .i64 oG) := cOb (o := 19) hst.blk rfl; have dx420 : x4.cell? ⟨w.heap.size, 20, none⟩ = some (vs nG) := cOb (o := 20) hst.blk rfl; have dx421 : x4.cell? ⟨w.heap.size, 21, none⟩ = some (.int .i64 mG) := cOb (o := 21) hst.blk rfl; have dx422 : x4.cell? ⟨w.heap.size, 22, none⟩ = some (.slice KG ksG.length qG) := cOb (o := 22) hst.blk rfl; have Hx4 := Hi hst; clear hst) | (go_at_call 59; (with_reducible refine (HC4.out _ _ _ _ Hx4.out).mono ?_); rintro e x5 ⟨v5, rfl, hst⟩; obtain ⟨Ax5, nx5, kx5, rfl⟩ := hst.own.sl; have dx511 : x5.cell? ⟨w.heap.size, 11, none⟩ = some (.int .i64 oB) := cOb (o := 11) hst.blk rfl; have dx512 : x5.cell? ⟨w.heap.size, 12, none⟩ = some (vs nB) := cOb (o := 12) hst.blk rfl; have dx513 : x5.cell? ⟨w.heap.size, 13, none⟩ = some (.int .i64 mB) := cOb (o := 13) hst.blk rfl; have dx514 : x5.cell? ⟨w.heap.size, 14, none⟩ = some (.slice KB ksB.length qB) := cOb (o := 14) hst.blk rfl; have dx515 : x5.cell? ⟨w.heap.size, 15, none⟩ = some (.int .i64 oD) := cOb (o := 15) hst.blk rfl; have dx516 : x5.cell? ⟨w.heap.size, 16, none⟩ = some (vs nD) := cOb (o := 16) hst.blk rfl; have dx517 : x5.cell? ⟨w.heap.size, 17, none⟩ = some (.int .i64 mD) := cOb (o := 17) hst.blk rfl; have dx518 : x5.cell? ⟨w.heap.size, 18, none⟩ = some (.slice KD ksD.length qD) := cOb (o := 18) hst.blk rfl; have dx519 : x5.cell? ⟨w.heap.size, 19, none⟩ = some (.int .i64 oG) := cOb (o := 19) hst.blk rfl; have dx520 : x5.cell? ⟨w.heap.size, 20, none⟩ = some (vs nG) := cOb (o := 20) hst.blk rfl; have dx521 : x5.cell? ⟨w.heap.size, 21, none⟩ = some (.int .i64 mG) := cOb (o := 21) hst.blk rfl; have dx522 : x5.cell? ⟨w.heap.size, 22, none⟩ = some (.slice KG ksG.length qG) := cOb (o := 22) hst.blk rfl; have Hx5 := Hi hst; clear hst)))
 clear c11 c12 c13 c14 c15 c16 c17 c18 c19 c20 c21 c22 cl dx311 dx312 dx313 dx314 dx315 dx316 dx317 dx318 dx319 dx320 dx321 dx322 dx411 dx412 dx413 dx414 dx415 dx416 dx417 dx418 dx419 dx420 dx421 dx422 dx511 dx512 dx513 dx514 dx515 dx516 dx517 dx518 dx519 dx520 dx521 dx522
 go_wp2_with fail
 go_ret
 exact ⟨_, rfl, Hx5.out.own, Hx5.out.below⟩
end Go.Proofs.YtbicmjmcdnkjhaaGreatDoor

