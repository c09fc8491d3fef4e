/- combine. -/
import Derived.Test.YtbicmjmcdnkjhaaGreatDoorJSS1
import Derived.Test.YtbicmjmcdnkjhaaGreatDoorJSS36
set_option linter.unusedVariables false
set_option linter.unusedSimpArgs false
set_option maxRecDepth 20000
set_option maxHeartbeats 4000000
namespace Go.Proofs.YtbicmjmcdnkjhaaGreatDoor
namespace So
open Go.RowKit
theorem combine_few_f (op k : Nat) (a : Tok) (sb p base fj fin : Nat) (ts l : List Tok) (st : Stack) (w : World) (hs : SK true w sb p base fj st) (hk : st.length < k) (hk2 : k ≤ 10000000) :
 Calls Tryz.prog 136 #[.pointer (some ⟨sb, 0, none⟩), .int .i64 op, .int .i64 k, a.agg] w fun e w' => e = stopE 5 a.pos ∧ Below w.heap.size w w' := by
 obtain ⟨v, hb, hown⟩ := hs.is
 obtain ⟨A, cap, rfl⟩ := hown.form
 have c1 := cOb (o := 1) hb rfl
 have dl := lHp hb
 have i1 : (st.length : Int) - k < 0 := by omega
 have hfew := hs.few
 clear hs hb hown
 simp only [Tok.agg]
 go_enter Tryz.func136, Tryz.ntmps136
 go_wp2_with fail
 refine (check_yes 5 a _).mono ?_
 rintro e w2 ⟨rfl, hb2⟩
 have HB2 := Hi (((Below.refl _ _).alloc (lR _) (tokO a)).trans (hb2.mono (by simp)))
 clear hb2
 go_wp2_with fail
 exact ⟨rfl, rfl, HB2.out⟩
/- the start of a combine, to its loop -/
theorem combine_f (op k n : Nat) (a : Tok) (sb p base fin : Nat) (ts l : List Tok) (st : Stack) (w : World) (hp : PS w p fin ts l) (hs : SK true w sb p base 130 st) (hn : st.length = n + k) (hk : 1 ≤ k) (hbw : base ≤ w.heap.size) :
 Calls Tryz.prog 136 #[.pointer (some ⟨sb, 0, none⟩), .int .i64 op, .int .i64 k, a.agg] w fun e w' => (deepK (st.drop n) ≤ 20 → e = .returned (.tuple #[]) ∧ SK true w' sb p base 130 (st.take n ++ [(.mk op [] 0 0 ((st.drop n).map (·.1)), deepK (st.drop n))]) ∧ PS w' p fin ts l ∧ EffS p sb base w w') ∧ (20 < deepK (st.drop n) → e = stopE 2 a.pos ∧ EffS p sb base w w') := by
 have HS := Hi hs
 have HP := Hi hp
 have hne : st ≠ [] := by rintro rfl; simp at hn; omega
 obtain ⟨v, hb, hown⟩ := hs.is
 have HOWN := Hi hown
 obtain ⟨g, cap, rfl, hg1, hg2, hg3, hg4, hat⟩ := hown.at hne
 rw [hn] at hb hg3
 have HAT := Hi hat
 have HX : Hid (w.heap[sb]? = some (.cells #[.pointer (some ⟨p, 0, none⟩), .slice (some ⟨g, 0, none⟩) (n + k) cap, .func (.func 130) #[] #[]] (sE true) (0, 0))) := Hi hb
 have c1 := cOb (o := 1) hb rfl
 have dl := lHp hb
 have HT1 := Hi (heap_alloc_new w (tokO a))
 have HN := Hi hn
 have hfew := hs.few
 have hlt := hs.lt
 have hpne := hs.ne
 rw [hn] at hfew
 clear hs hb hown hat hn hp
 simp only [Tok.agg]
 go_enter Tryz.func136, Tryz.ntmps136
 go_wp2_with fail
 have HB1 : Hid (Below w.heap.size w (w.alloc (tokO a))) := Hi ((Below.refl _ _).alloc (lR _) _)
 generalize w.alloc (tokO a) = w1 at HT1 HB1 ⊢
 refine (check_no 5 a _).mono ?_
 rintro e w2 ⟨rfl, hb2⟩
 have HB2 : Hid (Below w.heap.size w w2) := Hi (HB1.out.trans (hb2.mono HB1.out.size))
 have HT2 : Hid (w2.heap[w.heap.size]? = some (tokO a)) := Hi ((hb2.block _ (lHp HT1.out)).trans HT1.out)
 have hx2 := (HB2.out.block _ dl).trans HX.out
 have HX2 := Hi hx2
 have d1 := cOb (o := 1) hx2 rfl
 have d2 := cOb (o := 2) hx2 rfl
 have dl2 := lHp hx2
 have i2 : n ≤ cap := by omega
 have i3 : ¬ cap - n = 0 := by omega
 have i4 : ((cap - n : Nat) : Int) = cap - n := by omega
 clear hb2 c1 dl HT1 HB1 hx2
 go_wp2_with fail
 have HE3 := Hi (heap_alloc_new w2 (.cells #[.int .i64 0, .string ⟨#[]⟩, .int .i64 0, .int .i64 0, .slice none 0 0, .int .i64 1] 223 (0, 0)))
 have HB3 : Hid (Below w2.heap.size w2 (w2.alloc (.cells #[.int .i64 0, .string ⟨#[]⟩, .int .i64 0, .int .i64 0, .slice none 0 0, .int .i64 1] 223 (0, 0)))) := Hi ((Below.refl _ _).alloc (lR _) _)
 have hz3 : (w2.alloc (.cells #[.int .i64 0, .string ⟨#[]⟩, .int .i64 0, .int .i64 0, .slice none 0 0, .int .i64 1] 223 (0, 0))).heap.size = w2.heap.size + 1 := by simp
 generalize hW : World.alloc w2 _ = w3
 rw [hW] at HE3 HB3 hz3
 have HW3 : Hid (Below w.heap.size w w3) := Hi (HB2.out.trans (HB3.out.mono HB2.out.size))
 clear hW d1 d2
 have hw2 := HB2.out.size
 go_loopw [10, 32] (fun v10 v32 wr => ∃ j : Nat, j ≤ k ∧ v32 = .int .i64 j ∧ OwnK true wr base w.heap.size w3.heap.size v10 (((st.drop n).take j).map (·.1)) ∧ wr.heap[w2.heap.size]? = some (.cells #[.int .i64 0, .string ⟨#[]⟩, .int .i64 0, .int .i64 0, .slice none 0 0, .int .i64 (deepK ((st.drop n).take j) : Int)] 223 (0, 0)) ∧ Eff w2.heap.size w3 wr) (fun _ v32 _ => k - (intOf v32).toNat)
 case atStart => exact ⟨0, Nat.zero_le _, rfl, OwnK.nil, HE3.out, Eff.refl _ _⟩
 case round =>
  obtain ⟨j, hj, rfl, hown, hbox, heff⟩ := hrel
  have HO := Hi hown
  have HBX := Hi hbox
  have HEF := Hi heff
  have hez := heff.size
  clear hown hbox heff
  have HOLD : Hid (∀ b, b < w.heap.size → wr.heap[b]? = w.heap[b]?) := Hi (fun b hb => (HEF.out.block b (by have := HW3.out.size; omega) (by omega)).trans (HW3.out.block b hb))
  by_cases hlt : j < k
  · obtain ⟨⟨t, d⟩, hx⟩ : ∃ x, st[n + j]? = some x := gLt (by rw [HN.out]; omega)
    have hd20 : d ≤ 20 := HS.out.dep _ (List.mem_of_getElem? hx)
    obtain ⟨cs, hcs, tc, rfl, hrt⟩ := HAT.out _ _ hx
    have HRT := Hi hrt
    have HXJ := Hi hx
    obtain ⟨o', nm', cm', m', ks'⟩ := t
    obtain ⟨A', cap', rfl, -, -⟩ := hrt
    have ez : esz true = 6 := rfl
    rw [ez, Nat.add_mul] at hcs
    have hgr : g < wr.heap.size := by omega
    have e0 : wr.cell? ⟨g, n * 6 + j * 6, none⟩ = some (.int .i64 o') := (cOh (HOLD.out g hg2) _).trans (hcs 0 _ rfl)
    have e1 : wr.cell? ⟨g, n * 6 + j * 6 + 1, none⟩ = some (vs nm') := (cOh (HOLD.out g hg2) _).trans (hcs 1 _ rfl)
    have e2 : wr.cell? ⟨g, n * 6 + j * 6 + 2, none⟩ = some (.int .i64 cm') := (cOh (HOLD.out g hg2) _).trans (hcs 2 _ rfl)
    have e3 : wr.cell? ⟨g, n * 6 + j * 6 + 3, none⟩ = some (.int .i64 m') := (cOh (HOLD.out g hg2) _).trans (hcs 3 _ rfl)
    have e4 : wr.cell? ⟨g, n * 6 + j * 6 + 4, none⟩ = some (.slice A' ks'.length cap') := (cOh (HOLD.out g hg2) _).trans (hcs 4 _ rfl)
    have e5 : wr.cell? ⟨g, n * 6 + j * 6 + 5, none⟩ = some (.int .i64 d) := (cOh (HOLD.out g hg2) _).trans (hcs 5 _ rfl)
    have hj1 : (j : Int) < k := by omega
    have hj2 : (j : Int) < (n + k : Nat) := by omega
    have id1 : (d : Int) ≤ 20 := by omega
    have hdk : deepK ((st.drop n).take j) ≤ 21 := deepK_le (fun x hx => HS.out.dep x (List.mem_of_mem_drop (List.mem_of_mem_take hx)))
    clear hcs hx
    have hal2 : Below wr.heap.size wr ((wr.alloc (.cells #[.int .i64 o', vs nm', .int .i64 cm', .int .i64 m', .slice A' ks'.length cap', .int .i64 d] 223 (0, 0))).alloc (.cells #[.int .i64 o', vs nm', .int .i64 cm', .int .i64 m', .slice A' ks'.length cap'] 24 (0, 0))) := ((Below.refl _ _).alloc (lR _) _).alloc (by simp) _
    have HAL2 := Hi hal2
    have HOW := Hi (HO.out.keep hal2.size (fun b _ _ hlt => hal2.block b hlt) (fun b _ hlt => hal2.block b hlt))
    have HCS : Hid (∀ (j : Nat) u, ([.int .i64 o', vs nm', .int .i64 cm', .int .i64 m', .slice A' ks'.length cap'] : List Value)[j]? = some u → ((wr.alloc (.cells #[.int .i64 o', vs nm', .int .i64 cm', .int .i64 m', .slice A' ks'.length cap', .int .i64 d] 223 (0, 0))).alloc (.cells #[.int .i64 o', vs nm', .int .i64 cm', .int .i64 m', .slice A' ks'.length cap'] 24 (0, 0))).cell? ⟨wr.heap.size + 1, 0 + j, none⟩ = some u) := Hi (fun j u hu => by
     rw [Nat.zero_add]
     exact cOb (alloc_at (by simp)) (by simpa using hu))
    have HRW : Hid (RdTree true (fun b => base ≤ b ∧ b < w.heap.size) ((wr.alloc (.cells #[.int .i64 o', vs nm', .int .i64 cm', .int .i64 m', .slice A' ks'.length cap', .int .i64 d] 223 (0, 0))).alloc (.cells #[.int .i64 o', vs nm', .int .i64 cm', .int .i64 m', .slice A' ks'.length cap'] 24 (0, 0))) (tcs true o' nm' cm' m' (.slice A' ks'.length cap')) (.mk o' nm' cm' m' ks')) := Hi (HRT.out.keep (Nat.le_trans (Nat.le_trans HW3.out.size hez) hal2.size) (fun b hb hlt => ⟨⟨hb.1, hlt⟩, (hal2.block b (Nat.lt_of_lt_of_le hlt (Nat.le_trans HW3.out.size hez))).trans (HOLD.out b hlt)⟩))
    have HKL : Hid ((((st.drop n).take j).map (·.1)).length + 1 ≤ 1000000) := Hi (by simp; omega)
    have HLH : Hid (w.heap.size ≤ w3.heap.size) := Hi HW3.out.size
    have HHB : Hid (w3.heap.size ≤ ((wr.alloc (.cells #[.int .i64 o', vs nm', .int .i64 cm', .int .i64 m', .slice A' ks'.length cap', .int .i64 d] 223 (0, 0))).alloc (.cells #[.int .i64 o', vs nm', .int .i64 cm', .int .i64 m', .slice A' ks'.length cap'] 24 (0, 0))).heap.size) := Hi (Nat.le_trans hez hal2.size)
    have HKE : Hid (∀ w5, ((wr.alloc (.cells #[.int .i64 o', vs nm', .int .i64 cm', .int .i64 m', .slice A' ks'.length cap', .int .i64 d] 223 (0, 0))).alloc (.cells #[.int .i64 o', vs nm', .int .i64 cm', .int .i64 m', .slice A' ks'.length cap'] 24 (0, 0))).grownBy w5 u10.ownBlock → w5.heap[w2.heap.size]? = wr.heap[w2.heap.size]? ∧ w5.heap[wr.heap.size]? = some (.cells #[.int .i64 o', vs nm', .int .i64 cm', .int .i64 m', .slice A' ks'.length cap', .int .i64 d] 223 (0, 0)) ∧ ∀ b, b < w3.heap.size → w5.heap[b]? = wr.heap[b]?) := Hi (by
     intro w5 hg
     have hov := HO.out.own
     have hall : ∀ b, b < w3.heap.size → w5.heap[b]? = wr.heap[b]? := fun b hb => (hg.block b (Nat.lt_of_lt_of_le hb (Nat.le_trans hez hal2.size)) (fun e => by have := (hov b e.symm).1; omega)).trans (hal2.block b (by omega))
     refine ⟨hall _ (by omega), ?_, hall⟩
     exact (hg.block _ (by simp; omega) (fun e => by have := (hov _ e.symm).2; omega)).trans (old_at (alloc_at rfl)))
    have c1 := cOb (o := 5) HBX.out rfl
    clear hal2 c1
    go_wp2_with (at_builtin; refine wpList_kid_f rfl (.tmp 36) (.tmp 39) rfl base w.heap.size w3.heap.size u10 (((st.drop n).take j).map (·.1)) (wr.heap.size + 1) (tcs true o' nm' cm' m' (.slice A' ks'.length cap')) (.mk o' nm' cm' m' ks') rfl rfl HOW.out HCS.out HRW.out HKL.out HLH.out HHB.out ?_; intro v' w5 ho hg; have q := HKE.out w5 hg; obtain ⟨q1, q2, q3⟩ := q; have Q1 := Hi (q1.trans HBX.out); have r1 := cOb (o := 5) Q1.out rfl; have r2 := fOb (o := 5) Q1.out; have r3 := lHp Q1.out; have r4 := cOb (o := 5) q2 rfl; have r5 := lHp q2; have HHO := Hi ho; have HHG := Hi hg; have HQ3 := Hi q3; clear ho hg q1 q2 q3)
    have htk : (st.drop n).take (j + 1) = (st.drop n).take j ++ [(.mk o' nm' cm' m' ks', d)] := take_snoc (by rw [List.getElem?_drop]; exact HXJ.out)
    have hmx : max (deepK ((st.drop n).take j) : Int) ((d : Int) + 1) = ((deepK ((st.drop n).take (j + 1)) : Nat) : Int) := by rw [htk, deepK_snoc]; simp only []; omega
    obtain ⟨D, hD⟩ : ∃ D, deepK ((st.drop n).take (j + 1)) = D := ⟨_, rfl⟩
    rw [hmx, hD]
    have hset : ∀ b, b ≠ w2.heap.size → (w5.setCell ⟨w2.heap.size, 5, none⟩ (.int .i64 (D : Int))).heap[b]? = w5.heap[b]? := fun b hb => Below.heap_setCell _ _ _ _ (by simpa using hb)
    have hsz : (w5.setCell ⟨w2.heap.size, 5, none⟩ (.int .i64 (D : Int))).heap.size = w5.heap.size := by simp
    refine ⟨⟨j + 1, by omega, by go_num, ?_, ?_, ?_⟩, by simp [intOf]; omega⟩
    · rw [htk, List.map_append]
      exact HHO.out.keep (by rw [hsz]; exact lR _) (fun b _ hb _ => hset b (by omega)) (fun b hb _ => hset b (by omega))
    · rw [hD, rSc (o := 5) Q1.out]; simp
    · exact ⟨HHG.out.os.trans (HAL2.out.os.trans HEF.out.os), HHG.out.tape.trans (HAL2.out.tape.trans HEF.out.tape), HHG.out.output.trans (HAL2.out.output.trans HEF.out.output), by rw [hsz]; exact Nat.le_trans hez (Nat.le_trans HAL2.out.size HHG.out.size), fun b hb hne => (hset b hne).trans ((HQ3.out b hb).trans (HEF.out.block b hb hne))⟩
  · obtain rfl : j = k := by omega
    have htk : (st.drop n).take j = st.drop n := List.take_of_length_le (by rw [List.length_drop, HN.out]; omega)
    rw [htk] at HO HBX
    have hj1 : ¬ (j : Int) < j := by omega
    have ht : wr.heap[w.heap.size]? = some (tokO a) := (HEF.out.block _ (by have := lHp HT2.out; omega) (by have := lHp HT2.out; omega)).trans ((HB3.out.block _ (lHp HT2.out)).trans HT2.out)
    have HTW := Hi ht
    have t0 := cOb (o := 0) ht rfl
    have t1 := cOb (o := 1) ht rfl
    have t2 := cOb (o := 2) ht rfl
    have t3 := cOb (o := 3) ht rfl
    have tl := lHp ht
    have r5 := cOb (o := 5) HBX.out rfl
    have rl := lHp HBX.out
    have HSW : Hid (EffS p sb base w wr) := Hi ⟨HEF.out.os.trans HW3.out.os, HEF.out.tape.trans HW3.out.tape, HEF.out.output.trans HW3.out.output, Nat.le_trans HW3.out.size hez, fun k hk _ _ _ => HOLD.out k hk⟩
    clear ht
    by_cases hd : 20 < deepK (st.drop n)
    · have hd1 : (20 : Int) < deepK (st.drop n) := by omega
      have HD := Hi hd
      clear hd
      go_wp2_with fail
      refine (check_yes 2 a _).mono ?_
      rintro e w6 ⟨rfl, hb6⟩
      have HS6 := Hi (HSW.out.trans ((Eff.of_below (p := p) hb6).toS sb base))
      clear hb6
      go_wp2_with fail
      exact ⟨rfl, fun h => absurd HD.out (by omega), fun _ => ⟨rfl, HS6.out⟩⟩
    · have hd1 : ¬ (20 : Int) < deepK (st.drop n) := by omega
      have HD := Hi hd
      clear hd
      go_wp2_with fail
      refine (check_no 2 a _).mono ?_
      rintro e w6 ⟨rfl, hb6⟩
      have HB6 := Hi hb6
      have hx6 := (hb6.block _ (Nat.lt_of_lt_of_le dl2 (by have := HB3.out.size; omega))).trans ((HOLD.out sb (lHp HX.out)).trans HX.out)
      have s2 := cOb (o := 2) hx6 rfl
      have sl := lHp hx6
      have hbx6 := (hb6.block _ rl).trans HBX.out
      have HBX6 := Hi hbx6
      have hlist : (st.drop n).map (·.1) ≠ [] := by intro h; have := congrArg List.length h; simp [HN.out] at this; omega
      obtain ⟨gk, ck, hu10, gk1, gk2, gk3, gk4⟩ := HO.out.form hlist HW3.out.size (Nat.le_trans hbw HW3.out.size)
      have hml : ((st.drop n).map (·.1)).length = j := by simp [HN.out]
      rw [hml] at hu10 gk3
      subst hu10
      have HGK := Hi gk4
      clear hb6 t0 t1 t2 t3 tl r5 hx6 hbx6 gk4 hlist hml hd1
      go_wp2_with fail
      refine (joins_f.go op (some ⟨gk, 0, none⟩) j ck w6).mono ?_
      rintro e w7 ⟨rfl, hb7⟩
      simp only [tcs]
      have HB7 : Hid (Below wr.heap.size wr w7) := Hi (HB6.out.trans (hb7.mono HB6.out.size))
      have hbx7 := (hb7.block _ (lHp HBX6.out)).trans HBX6.out
      have HBX7 := Hi hbx7
      have d0 := cOb (o := 0) hbx7 rfl
      have d1 := cOb (o := 1) hbx7 rfl
      have d2 := cOb (o := 2) hbx7 rfl
      have d3 := cOb (o := 3) hbx7 rfl
      have d4 := cOb (o := 4) hbx7 rfl
      have f0 := fOb (o := 0) hbx7
      have f1 := fOb (o := 1) hbx7
      have f2 := fOb (o := 2) hbx7
      have f3 := fOb (o := 3) hbx7
      have f4 := fOb (o := 4) hbx7
      have l7 := lHp hbx7
      have HSL := Hi sl
      clear hb7 hbx7 s2 sl
      go_upto_region 13 with fail
      have ho : Off w2.heap.size w7 (((((w7.setCell ⟨w2.heap.size, 0, none⟩ (.int .i64 op)).setCell ⟨w2.heap.size, 1, none⟩ (.string ⟨#[]⟩)).setCell ⟨w2.heap.size, 2, none⟩ (.int .i64 0)).setCell ⟨w2.heap.size, 3, none⟩ (.int .i64 0)).setCell ⟨w2.heap.size, 4, none⟩ (.slice (some ⟨gk, 0, none⟩) j ck)) := (((((Off.refl _ _).set (o := 0) _).set (o := 1) _).set (o := 2) _).set (o := 3) _).set (o := 4) _
      have he8 : ((((((w7.setCell ⟨w2.heap.size, 0, none⟩ (.int .i64 op)).setCell ⟨w2.heap.size, 1, none⟩ (.string ⟨#[]⟩)).setCell ⟨w2.heap.size, 2, none⟩ (.int .i64 0)).setCell ⟨w2.heap.size, 3, none⟩ (.int .i64 0)).setCell ⟨w2.heap.size, 4, none⟩ (.slice (some ⟨gk, 0, none⟩) j ck))).heap[w2.heap.size]? = some (.cells #[.int .i64 op, .string ⟨#[]⟩, .int .i64 0, .int .i64 0, .slice (some ⟨gk, 0, none⟩) j ck, .int .i64 (deepK (st.drop n) : Int)] 223 (0, 0)) := by
       have q := HBX7.out
       have q := rSc (o := 0) (u := .int .i64 op) q
       have q := rSc (o := 1) (u := .string ⟨#[]⟩) q
       have q := rSc (o := 2) (u := .int .i64 0) q
       have q := rSc (o := 3) (u := .int .i64 0) q
       have q := rSc (o := 4) (u := .slice (some ⟨gk, 0, none⟩) j ck) q
       simpa using q
      generalize (((((w7.setCell ⟨w2.heap.size, 0, none⟩ (.int .i64 op)).setCell ⟨w2.heap.size, 1, none⟩ (.string ⟨#[]⟩)).setCell ⟨w2.heap.size, 2, none⟩ (.int .i64 0)).setCell ⟨w2.heap.size, 3, none⟩ (.int .i64 0)).setCell ⟨w2.heap.size, 4, none⟩ (.slice (some ⟨gk, 0, none⟩) j ck)) = w8 at ho he8 ⊢
      have hsize8 : wr.heap.size ≤ w8.heap.size := by rw [ho.size]; exact HB7.out.size
      have OLD8 : ∀ b, b < w.heap.size → w8.heap[b]? = w.heap[b]? := fun b hb => (ho.block b (by omega)).trans ((HB7.out.block b (by have := HW3.out.size; omega)).trans (HOLD.out b hb))
      have hx8 := (OLD8 sb (lHp HX.out)).trans HX.out
      have hw8 : w.heap.size ≤ w8.heap.size := Nat.le_trans (Nat.le_trans HW3.out.size hez) hsize8
      have hal8 : Below w8.heap.size w8 (w8.alloc (.cells #[.int .i64 op, .string ⟨#[]⟩, .int .i64 0, .int .i64 0, .slice (some ⟨gk, 0, none⟩) j ck, .int .i64 (deepK (st.drop n) : Int)] 223 (0, 0))) := (Below.refl _ _).alloc (lR _) _
      have HBWW : Hid (Below w.heap.size w (w8.alloc (.cells #[.int .i64 op, .string ⟨#[]⟩, .int .i64 0, .int .i64 0, .slice (some ⟨gk, 0, none⟩) j ck, .int .i64 (deepK (st.drop n) : Int)] 223 (0, 0))).drew) := Hi (Below.drew ⟨hal8.os.trans (ho.os.trans (HB7.out.os.trans HSW.out.os)), hal8.tape.trans (ho.tape.trans (HB7.out.tape.trans HSW.out.tape)), hal8.output.trans (ho.output.trans (HB7.out.output.trans HSW.out.output)), Nat.le_trans hw8 hal8.size, fun b hb => (hal8.block b (by omega)).trans (OLD8 b hb)⟩)
      have HO8 : Hid (OwnE true (w8.alloc (.cells #[.int .i64 op, .string ⟨#[]⟩, .int .i64 0, .int .i64 0, .slice (some ⟨gk, 0, none⟩) j ck, .int .i64 (deepK (st.drop n) : Int)] 223 (0, 0))) base (.slice (some ⟨g, 0, none⟩) st.length cap) st) := Hi (HOWN.out.keep (Nat.le_trans hw8 hal8.size) (fun b _ hb => (hal8.block b (by omega)).trans (OLD8 b hb)))
      have HC8 : Hid (∀ (q : Nat) u, ([.int .i64 op, .string ⟨#[]⟩, .int .i64 0, .int .i64 0, .slice (some ⟨gk, 0, none⟩) j ck, .int .i64 (deepK (st.drop n) : Int)] : List Value)[q]? = some u → (w8.alloc (.cells #[.int .i64 op, .string ⟨#[]⟩, .int .i64 0, .int .i64 0, .slice (some ⟨gk, 0, none⟩) j ck, .int .i64 (deepK (st.drop n) : Int)] 223 (0, 0))).cell? ⟨w8.heap.size, 0 + q, none⟩ = some u) := Hi (fun q u hu => by
       rw [Nat.zero_add]
       exact cOb (alloc_at rfl) (by simpa using hu))
      have HR8 : Hid (RdE true (fun b => base ≤ b) (w8.alloc (.cells #[.int .i64 op, .string ⟨#[]⟩, .int .i64 0, .int .i64 0, .slice (some ⟨gk, 0, none⟩) j ck, .int .i64 (deepK (st.drop n) : Int)] 223 (0, 0))) [.int .i64 op, .string ⟨#[]⟩, .int .i64 0, .int .i64 0, .slice (some ⟨gk, 0, none⟩) j ck, .int .i64 (deepK (st.drop n) : Int)] (.mk op [] 0 0 ((st.drop n).map (·.1)), deepK (st.drop n))) := Hi (by
       have hlm : ((st.drop n).map (·.1)).length = j := by simp [HN.out]
       refine ⟨tcs true op [] 0 0 (.slice (some ⟨gk, 0, none⟩) j ck), rfl, some ⟨gk, 0, none⟩, ck, by rw [hlm], by rw [hlm]; exact gk3, .inr ⟨gk, 0, rfl, by have := HW3.out.size; omega, by have := hal8.size; omega, ?_⟩⟩
       have hgk : (w8.alloc (.cells #[.int .i64 op, .string ⟨#[]⟩, .int .i64 0, .int .i64 0, .slice (some ⟨gk, 0, none⟩) j ck, .int .i64 (deepK (st.drop n) : Int)] 223 (0, 0))).heap[gk]? = wr.heap[gk]? := (hal8.block gk (by omega)).trans ((ho.block gk (by omega)).trans (HB7.out.block gk gk2))
       exact HGK.out.keep (Nat.le_trans hsize8 hal8.size) (fun b hb hlt => ⟨hb.1, (hal8.block b (by omega)).trans ((OLD8 b hb.2).trans (HOLD.out b hb.2).symm)⟩) hgk)
      have HN8 : Hid (n ≤ st.length) := Hi (by rw [HN.out]; omega)
      have HL8 : Hid (n + 1 ≤ 1000000) := Hi (by omega)
      have HH8 : Hid (base ≤ (w8.alloc (.cells #[.int .i64 op, .string ⟨#[]⟩, .int .i64 0, .int .i64 0, .slice (some ⟨gk, 0, none⟩) j ck, .int .i64 (deepK (st.drop n) : Int)] 223 (0, 0))).heap.size) := Hi (by have := hal8.size; omega)
      have HKE8 : Hid (∀ w', (w8.alloc (.cells #[.int .i64 op, .string ⟨#[]⟩, .int .i64 0, .int .i64 0, .slice (some ⟨gk, 0, none⟩) j ck, .int .i64 (deepK (st.drop n) : Int)] 223 (0, 0))).drew.grownBy w' none → w'.cell? ⟨sb, 1, none⟩ = some (.slice (some ⟨g, 0, none⟩) (n + j) cap) ∧ w'.frozen? ⟨sb, 1, none⟩ = false ∧ sb < w'.heap.size) := Hi (fun w' hg => by
       have hq : w'.heap[sb]? = _ := (hg.block sb (by have := lHp hx8; simp; omega) (fun e => by cases e)).trans ((hal8.block sb (lHp hx8)).trans hx8)
       exact ⟨cOb (o := 1) hq rfl, fOb hq, lHp hq⟩)
      have x1 := cOb (o := 1) hx8 rfl
      have xl := lHp hx8
      have xl1 : sb < w8.heap.size + 1 := Nat.lt_succ_of_lt xl
      have y0e := cOb (o := 0) he8 rfl
      have y1e := cOb (o := 1) he8 rfl
      have y2e := cOb (o := 2) he8 rfl
      have y3e := cOb (o := 3) he8 rfl
      have y4e := cOb (o := 4) he8 rfl
      have y5e := cOb (o := 5) he8 rfl
      have el8 := lHp he8
      have el81 : w2.heap.size < w8.heap.size + 1 := Nat.lt_succ_of_lt el8
      have y1 : (n : Int) ≤ cap := by omega
      have y2 : (0 : Int) ≤ n := by omega
      have HDEP : Hid (∀ x ∈ st.take n ++ [(Tree.mk op [] 0 0 ((st.drop n).map (·.1)), deepK (st.drop n))], x.2 ≤ 20) := Hi (dep_snoc (fun x hx => HS.out.dep x (List.mem_of_mem_take hx)) (by have := HD.out; omega))
      have HLEN : Hid ((st.take n ++ [(Tree.mk op [] 0 0 ((st.drop n).map (·.1)), deepK (st.drop n))]).length ≤ 200) := Hi (by simp; omega)
      clear ho he8 OLD8 hx8 hal8 d0 f0 d1 f1 d2 f2 d3 f3 d4 f4
      go_region_law (refine step_comb_f rfl (.tmp 69) (.tmp 71) rfl (w8.alloc (.cells #[.int .i64 op, .string ⟨#[]⟩, .int .i64 0, .int .i64 0, .slice (some ⟨gk, 0, none⟩) j ck, .int .i64 (deepK (st.drop n) : Int)] 223 (0, 0))) rfl base g n cap st HO8.out HN8.out w8.heap.size [.int .i64 op, .string ⟨#[]⟩, .int .i64 0, .int .i64 0, .slice (some ⟨gk, 0, none⟩) j ck, .int .i64 (deepK (st.drop n) : Int)] (.mk op [] 0 0 ((st.drop n).map (·.1)), deepK (st.drop n)) rfl rfl HC8.out HR8.out HL8.out HH8.out ?_; intro v' w' ho hg; obtain ⟨A', cap', hv'⟩ := ho.form; subst hv'; have HHO := Hi ho; have HHG := Hi hg; have c1' := HKE8.out w' hg; obtain ⟨c2', f2', l2'⟩ := c1'; clear ho hg)
      all_goals
       go_end0
       have hq := SK.pushed (v := .slice none 0 0) HS.out HP.out hbw HBWW.out (fun b hb => by simp [Value.ownBlock] at hb) HHO.out HHG.out HLEN.out HDEP.out
       simp only [List.length_append, List.length_take, List.length_cons, List.length_nil, Nat.zero_add] at hq
       exact ⟨fun _ => ⟨rfl, hq⟩, fun h => absurd h HD.out⟩
end So
end Go.Proofs.YtbicmjmcdnkjhaaGreatDoor
