/- except: the names of provisions. What holds while provision runs: the parser's block, the box of the outcome, the box of the result, and what the fields point to. A provision that the parser of south has built, as the printer reads one. -/
import Derived.Test.YtbicmjmcdnkjhaaGreatDoorJSS1
import Derived.Test.YtbicmjmcdnkjhaaGreatDoorJSS42
import Derived.Test.YtbicmjmcdnkjhaaGreatDoorJSS33
import Derived.Test.YtbicmjmcdnkjhaaGreatDoorJSS6
set_option linter.unusedVariables false
set_option linter.unusedSimpArgs false
set_option maxRecDepth 20000
set_option maxHeartbeats 4000000
namespace Go.Proofs.YtbicmjmcdnkjhaaGreatDoor
namespace So
open Go.RowKit
/- a row of strings that the call owns -/
theorem _root_.Go.Proofs.YtbicmjmcdnkjhaaGreatDoor.OwnS.below {w w' : World} {base : Nat} {v : Value} {l : List (List UInt8)} (h : OwnS w base v l) (hb : Below w.heap.size w w') : OwnS w' base v l := h.keep (fun b _ hlt => hb.block b hlt)
abbrev StrV (w : World) (l : List (List UInt8)) (v : Value) (w' : World) : Prop := ∃ A cap, v = .slice A l.length cap ∧ l.length ≤ cap ∧ RdS w' A l ∧ ∀ b o, A = some ⟨b, o, none⟩ → w.heap.size ≤ b ∧ b < w'.heap.size
theorem eff_alloc (p : Nat) (w : World) (o : Obj) : Eff p w (w.alloc o) := Eff.of_below ((Below.refl _ _).alloc (lR _) _)
theorem fits_alloc {p fin : Nat} {ts l : List Tok} {w : World} (h : PS w p fin ts l) (o : Obj) : PS (w.alloc o) p fin ts l := h.below ((Below.refl _ _).alloc (lR _) _)
def exI (k : Nat) (acc : List (List UInt8)) (r : List Tok) : R (List (List UInt8)) := if acc.length = 0 then namesF k acc r else isF [41] r (fun r => .ok (acc, r)) fun r => namesF k acc r
def sliceLen : Value → Nat | .slice _ n _ => n | _ => 0
theorem namesF_eq (n : Nat) (out : List (List UInt8)) (l : List Tok) : namesF (n + 1) out l = bindR (nameF l) fun s r => guardR l (excC out s) (exI n (out ++ [s]) r) := by
 rw [namesF]
 congr
 funext s r
 unfold exI
 rw [if_neg (by simp)]
theorem except_any (p fin : Nat) (ts l : List Tok) (w : World) (hp : PS w p fin ts l) :
 Calls Tryz.prog 93 #[.pointer (some ⟨p, 0, none⟩)] w (OutR p fin ts w (excF l) (StrV w)) := by
 have HP := Hi hp
 have hpl := hp.lt
 clear hp
 go_enter Tryz.func93, Tryz.ntmps93
 go_wp2_with fail
 have hmu := must_any [40] p fin ts l _ HP.out
 cases hq : mustF [40] l with
 | error x =>
   obtain ⟨c, s⟩ := x
   rw [hq] at hmu
   have HRR : Hid (excF l = .error (c, s)) := Hi (by unfold excF; rw [hq]; rfl)
   refine hmu.mono ?_
   rintro e w2 ⟨rfl, he⟩
   have HER := Hi he
   clear hmu hq he
   go_wp2_with fail
   refine ⟨rfl, ?_⟩
   rw [HRR.out]
   exact ⟨rfl, HER.out⟩
 | ok x =>
   obtain ⟨u, r0⟩ := x
   rw [hq] at hmu
   have HL : Hid (excF l = namesF 22 [] r0) := Hi (by unfold excF; rw [hq]; rfl)
   refine hmu.mono ?_
   rintro e w2 ⟨vv, rfl, rfl, hp2, he2⟩
   have HP2 := Hi hp2
   have HE2 := Hi he2
   clear hmu hq hp2 he2
   go_wp2_with fail
   go_loopw [3] (fun v wr => ∃ (k : Nat) (acc : List (List UInt8)) (r : List Tok), acc.length + k = 22 ∧ acc.length ≤ 20 ∧ namesF 22 [] r0 = exI k acc r ∧ PS wr p fin ts r ∧ Eff p w wr ∧ OwnS wr w.heap.size v acc) (fun v _ => 22 - sliceLen v)
   case atStart => exact ⟨22, [], r0, rfl, by simp, rfl, HP2.out, HE2.out, OwnS.nil⟩
   case round =>
    obtain ⟨k, acc, r, hk, h20, hexc, hps, hef, hown⟩ := hrel
    obtain ⟨A, cap, rfl, hcap, hrd, hA⟩ := hown.form
    have HOWN := Hi hown
    have HPS := Hi hps
    have HEF := Hi hef
    have hws := hef.size
    by_cases h0 : acc.length = 0
    · have i1 : ((acc.length : Int) == 0) = true := by simp [h0]
      have HEX : Hid (namesF 22 [] r0 = namesF k acc r) := Hi (by rw [hexc, exI, if_pos h0])
      clear hown hrd hexc hps hef hA HP h0 HP2 HE2
      obtain ⟨k', rfl⟩ : ∃ k', k = k' + 1 := ⟨k - 1, by omega⟩
      go_wp2_with fail
      rcases name_cases r with ⟨t, r2, rfl, hn1, hn2⟩ | ⟨hn1, hn2⟩
      case inr =>
       have HRR : Hid (excF l = .error (failC r, r)) := Hi (by rw [HL.out, HEX.out, namesF_eq, hn2]; rfl)
       refine (name_no p fin ts r _ HPS.out hn1).mono ?_
       rintro e w5 ⟨rfl, hb5⟩
       have HER := Hi (HEF.out.trans (Eff.of_below (p := p) hb5))
       clear hb5
       go_wp2_with fail
       refine ⟨rfl, ?_⟩
       rw [HRR.out]
       exact ⟨rfl, HER.out⟩
      case inl =>
       have HN1 := Hi hn1
       have HN2 := Hi hn2
       refine (name_ok p fin ts t r2 _ HPS.out hn1).mono ?_
       rintro e w5 ⟨rfl, hp5, he5⟩
       have HP5 := Hi hp5
       have HE5 := Hi (HEF.out.trans he5)
       have HO5 := Hi (HOWN.out.eff he5 hpl)
       simp only [Tok.agg]
       clear hp5 he5 hn1 hn2
       go_upto_region 5 with fail
       have HE6 := Hi (HE5.out.trans (eff_alloc p w5 (tokO t)))
       have HP6 := Hi (fits_alloc HP5.out (tokO t))
       have HO6 := Hi (HO5.out.eff (eff_alloc p w5 (tokO t)) hpl)
       have HX := heap_alloc_new w5 (tokO t)
       generalize w5.alloc _ = w6 at HE6 HP6 HO6 HX ⊢
       obtain ⟨A2, cap2, hv, hcap2, hrd, hA⟩ := HO6.out.form
       cases hv
       have c0 := cOb (o := 0) HX rfl
       have c1 := cOb (o := 1) HX rfl
       have c2 := cOb (o := 2) HX rfl
       have c3 := cOb (o := 3) HX rfl
       have dl := lHp HX
       have HRD := Hi hrd
       have HRDD : Hid (RdS w6.drew A acc) := Hi hrd
       clear HX hrd hA
       cases hc : acc.contains t.text with
       | true =>
         have HRR : Hid (excF l = .error (9, t :: r2)) := Hi (by rw [HL.out, HEX.out, namesF_eq, HN2.out]; simp only [bindR, excC, hc, if_true, guardR]; rfl)
         have HC := Hi hc
         clear hc
         refine wp_region_any (by kernel_rfl) ?_
         change wpAny _ _ _ _ _ _ _ (World.drew _)
         refine wpAny_take (i := 0) (v := ?_) rfl (by kernel_rfl) (by kernel_rfl) (by kernel_rfl) (fun _ _ _ h => h) (Or.inl ⟨by rfl, ?hy0_1⟩) ?rest0_1
         case hy0_1 =>
          intro w
          first | (go_simp; done) | (go_simp; rfl) | rfl
         refine wpAny_take (i := 1) (v := ?_) rfl (by kernel_rfl) (by kernel_rfl) (by kernel_rfl) (fun _ _ _ h => h) (Or.inl ⟨by rfl, ?hy1_1⟩) ?rest1_1
         case hy1_1 =>
          intro w
          first | (go_simp; done) | (go_simp; rfl) | rfl
         refine wpAny_ready (rs := [2, 4]) (by kernel_rfl) (by simp) ?_
         refine AllReady.cons rfl (fun K hK => ?_) ?_
         · go_simp
           refine hK _ _ ?_
           clear hK K
           refine wpAny_ready (rs := [3, 4]) (by kernel_rfl) (by simp) ?_
           refine AllReady.cons rfl (fun K hK => ?_) ?_
           · go_simp
             refine (containsS_any acc A cap t.text w6.drew HRDD.out (by omega)).mono ?_
             rintro e w7 ⟨rfl, rfl⟩
             rw [HC.out]
             go_simp
             refine hK _ _ ?_
             clear hK K
             refine wpAny_ready (rs := [4]) (by kernel_rfl) (by simp) ?_
             refine AllReady.cons rfl (fun K hK => ?_) ?_
             · go_simp
               refine hK _ _ ?_
               clear hK K
               refine wpAny_ready (rs := [5]) (by kernel_rfl) (by simp) ?_
               refine AllReady.cons rfl (fun K hK => ?_) ?_
               · go_simp
                 refine (check_yes 9 t _).mono ?_
                 rintro e w7 ⟨rfl, hb7⟩
                 refine ⟨rfl, ?_⟩
                 rw [HRR.out]
                 exact ⟨rfl, HE6.out.trans ((Eff.of_below (p := p) ((Below.refl w6.heap.size w6).drew)).trans (Eff.of_below (p := p) hb7))⟩
               exact AllReady.nil
             exact AllReady.nil
           refine AllReady.cons rfl (fun K hK => ?_) ?_
           · go_simp
             refine hK _ _ ?_
             clear hK K
             refine wpAny_ready (rs := [3]) (by kernel_rfl) (by simp) ?_
             refine AllReady.cons rfl (fun K hK => ?_) ?_
             · go_simp
               refine (containsS_any acc A cap t.text w6.drew HRDD.out (by omega)).mono ?_
               rintro e w7 ⟨rfl, rfl⟩
               rw [HC.out]
               go_simp
               refine hK _ _ ?_
               clear hK K
               refine wpAny_ready (rs := [5]) (by kernel_rfl) (by simp) ?_
               refine AllReady.cons rfl (fun K hK => ?_) ?_
               · go_simp
                 refine (check_yes 9 t _).mono ?_
                 rintro e w7 ⟨rfl, hb7⟩
                 refine ⟨rfl, ?_⟩
                 rw [HRR.out]
                 exact ⟨rfl, HE6.out.trans ((Eff.of_below (p := p) ((Below.refl w6.heap.size w6).drew)).trans (Eff.of_below (p := p) hb7))⟩
               exact AllReady.nil
             exact AllReady.nil
           exact AllReady.nil
         refine AllReady.cons rfl (fun K hK => ?_) ?_
         · go_simp
           refine hK _ _ ?_
           clear hK K
           refine wpAny_ready (rs := [2]) (by kernel_rfl) (by simp) ?_
           refine AllReady.cons rfl (fun K hK => ?_) ?_
           · go_simp
             refine hK _ _ ?_
             clear hK K
             refine wpAny_ready (rs := [3]) (by kernel_rfl) (by simp) ?_
             refine AllReady.cons rfl (fun K hK => ?_) ?_
             · go_simp
               refine (containsS_any acc A cap t.text w6.drew HRDD.out (by omega)).mono ?_
               rintro e w7 ⟨rfl, rfl⟩
               rw [HC.out]
               go_simp
               refine hK _ _ ?_
               clear hK K
               refine wpAny_ready (rs := [5]) (by kernel_rfl) (by simp) ?_
               refine AllReady.cons rfl (fun K hK => ?_) ?_
               · go_simp
                 refine (check_yes 9 t _).mono ?_
                 rintro e w7 ⟨rfl, hb7⟩
                 refine ⟨rfl, ?_⟩
                 rw [HRR.out]
                 exact ⟨rfl, HE6.out.trans ((Eff.of_below (p := p) ((Below.refl w6.heap.size w6).drew)).trans (Eff.of_below (p := p) hb7))⟩
               exact AllReady.nil
             exact AllReady.nil
           exact AllReady.nil
         exact AllReady.nil
       | false =>
         have HC := Hi hc
         clear hc
         refine wp_region_grew (by kernel_rfl) (by as_aux_lemma => kernel_rfl) ?_
         have HCN : ∀ y, Hid (Calls Tryz.prog 125 #[.slice A acc.length cap, vs t.text] (World.grew w6 y) fun e w' => e = .returned (.bool false) ∧ ∃ x, w' = World.grew w6 x) := fun y => Hi ((containsS_any acc A cap t.text _ (Sl.keep HRD.out (gBl w6 y).size (fun b o hA hlt => (gBl w6 y).block b hlt)) (by omega)).mono fun e w' ⟨h1, h2⟩ => ⟨by rw [h1, HC.out], y, h2.symm⟩)
         have HCK : ∀ y, Hid (Calls Tryz.prog 139 #[.bool false, .int .i64 9, .agg #[.int .i64 t.kind, vs t.text, .int .i64 t.n, .int .i64 t.pos]] (World.grew w6 y) fun e w' => e = .returned (.tuple #[]) ∧ ∃ x, w' = World.grew w6 x) := fun y => Hi (Calls_grew (check_no 9 t _))
         repeat (go_big_quiet_step ((first | exact (HCN _).out | exact (HCK _).out)))
         refine wpQuiet_nil ?_
         rintro _ ⟨y, rfl⟩
         have hb7 := gBl w6 y
         generalize World.grew w6 y = w7 at hb7 ⊢
         have HE7 := Hi (HE6.out.trans (Eff.of_below (p := p) hb7))
         have HP7 := Hi (HP6.out.below hb7)
         have HO7 := Hi (HO6.out.below hb7)
         have d0 := (hb7.cell (p := ⟨w5.heap.size, 0, none⟩) dl).trans c0
         have d1 := (hb7.cell (p := ⟨w5.heap.size, 1, none⟩) dl).trans c1
         have d2 := (hb7.cell (p := ⟨w5.heap.size, 2, none⟩) dl).trans c2
         have d3 := (hb7.cell (p := ⟨w5.heap.size, 3, none⟩) dl).trans c3
         have dl7 := Nat.lt_of_lt_of_le dl hb7.size
         clear hb7 c0 c1 c2 c3 dl HCN HCK
         by_cases h2 : acc.length = 20
         · have y1 : ((acc.length : Int) == 20) = true := by simp; omega
           have HRR : Hid (excF l = .error (2, t :: r2)) := Hi (by rw [HL.out, HEX.out, namesF_eq, HN2.out]; simp only [bindR, excC, HC.out, h2, if_true, guardR]; rfl)
           clear h2
           go_wp2_with fail
           refine (check_yes 2 t _).mono ?_
           rintro e w8 ⟨rfl, hb8⟩
           have HER := Hi (HE7.out.trans (Eff.of_below (p := p) hb8))
           clear hb8
           go_wp2_with fail
           refine ⟨rfl, ?_⟩
           rw [HRR.out]
           exact ⟨rfl, HER.out⟩
         · have y1 : ((acc.length : Int) == 20) = false := by simp; omega
           have HEXN : Hid (excF l = exI k' (acc ++ [t.text]) r2) := Hi (by rw [HL.out, HEX.out, namesF_eq, HN2.out]; simp only [bindR, excC, HC.out, h2, if_false, Bool.false_eq_true, guardR, if_true])
           have H2 := Hi h2
           clear h2
           go_wp2_with fail
           refine (check_no 2 t _).mono ?_
           rintro e w8 ⟨rfl, hb8⟩
           have HE8 := Hi (HE7.out.trans (Eff.of_below (p := p) hb8))
           have HP8 := Hi (HP7.out.below hb8)
           have HO8 := Hi (HO7.out.below hb8)
           have c1 := (hb8.cell (p := ⟨w5.heap.size, 1, none⟩) dl7).trans d1
           have dl8 := Nat.lt_of_lt_of_le dl7 hb8.size
           have hs8 := HE8.out.size
           have HO9 := Hi (HO8.out.eff (eff_alloc p w8 (.cells #[vs t.text] 9 (0, 0))) hpl)
           have HCELL : Hid ((w8.alloc (.cells #[vs t.text] 9 (0, 0))).cell? ⟨w8.heap.size, 0, none⟩ = some (vs t.text)) := Hi (cOb (heap_alloc_new w8 _) rfl)
           have hsz9 : w.heap.size ≤ (w8.alloc (.cells #[vs t.text] 9 (0, 0))).heap.size := by simp; omega
           have HSZ9 := Hi hsz9
           clear hb8 d0 d1 d2 d3 dl7 hsz9
           go_wp2_with (at_builtin; refine wpList_append_str rfl (.tmp 28) (.tmp 31) rfl w.heap.size (.slice A acc.length cap) acc w8.heap.size t.text rfl rfl HO9.out HCELL.out (by omega) HSZ9.out ?_; intro v' w9 ho hg)
           have hown' := HO9.out.own
           have hx : 22 - sliceLen v' < 22 - acc.length := by
            obtain ⟨A9, cap9, rfl, -⟩ := OwnS.form ho
            simp [sliceLen]
            omega
           exact ⟨⟨k', acc ++ [t.text], r2, by simp; omega, by have := H2.out; simp; omega, HL.out.symm.trans HEXN.out, (fits_alloc HP8.out _).grown hg (fun b hb => by have := (hown' b hb).1; omega), (HE8.out.trans (eff_alloc p w8 _)).grown hg (fun b hb => (hown' b hb).1), ho⟩, hx⟩
    · have i1 : ((acc.length : Int) == 0) = false := by simp [h0]
      have HEX0 : Hid (namesF 22 [] r0 = isF [41] r (fun r => .ok (acc, r)) fun r => namesF k acc r) := Hi (by rw [hexc, exI, if_neg h0])
      clear hown hrd hexc hps hef hA HP h0 HP2 HE2
      cases hs : seesF [[41]] r with
      | true =>
        have HRR : Hid (excF l = .ok (acc, r.tail)) := Hi (by rw [HL.out, HEX0.out]; unfold isF; rw [hs]; rfl)
        have HS := Hi hs
        clear hs
        go_wp2_with fail
        refine (is_yes [41] p fin ts r _ HPS.out HS.out).mono ?_
        rintro e w4 ⟨rfl, hp4, he4⟩
        have HP4 := Hi hp4
        have HE4 := Hi (HEF.out.trans he4)
        have HO4 := Hi (HOWN.out.eff he4 hpl)
        clear hp4 he4
        go_wp2_with fail
        go_ret
        rw [HRR.out]
        exact ⟨_, rfl, HO4.out.form, HP4.out, HE4.out⟩
      | false =>
        have HEX : Hid (namesF 22 [] r0 = namesF k acc r) := Hi (by rw [HEX0.out]; unfold isF; rw [hs]; rfl)
        have HS := Hi hs
        clear hs
        go_wp2_with fail
        refine (is_no [41] p fin ts r _ HPS.out HS.out).mono ?_
        rintro e w4 ⟨rfl, hb4⟩
        have HEF4 := Hi (HEF.out.trans (Eff.of_below (p := p) hb4))
        have HPS4 := Hi (HPS.out.below hb4)
        have HOWN4 := Hi (HOWN.out.below hb4)
        clear HEF HPS HOWN hb4
        have HEF := HEF4
        have HPS := HPS4
        have HOWN := HOWN4
        obtain ⟨k', rfl⟩ : ∃ k', k = k' + 1 := ⟨k - 1, by omega⟩
        go_wp2_with fail
        rcases name_cases r with ⟨t, r2, rfl, hn1, hn2⟩ | ⟨hn1, hn2⟩
        case inr =>
         have HRR : Hid (excF l = .error (failC r, r)) := Hi (by rw [HL.out, HEX.out, namesF_eq, hn2]; rfl)
         refine (name_no p fin ts r _ HPS.out hn1).mono ?_
         rintro e w5 ⟨rfl, hb5⟩
         have HER := Hi (HEF.out.trans (Eff.of_below (p := p) hb5))
         clear hb5
         go_wp2_with fail
         refine ⟨rfl, ?_⟩
         rw [HRR.out]
         exact ⟨rfl, HER.out⟩
        case inl =>
         have HN1 := Hi hn1
         have HN2 := Hi hn2
         refine (name_ok p fin ts t r2 _ HPS.out hn1).mono ?_
         rintro e w5 ⟨rfl, hp5, he5⟩
         have HP5 := Hi hp5
         have HE5 := Hi (HEF.out.trans he5)
         have HO5 := Hi (HOWN.out.eff he5 hpl)
         simp only [Tok.agg]
         clear hp5 he5 hn1 hn2
         go_upto_region 5 with fail
         have HE6 := Hi (HE5.out.trans (eff_alloc p w5 (tokO t)))
         have HP6 := Hi (fits_alloc HP5.out (tokO t))
         have HO6 := Hi (HO5.out.eff (eff_alloc p w5 (tokO t)) hpl)
         have HX := heap_alloc_new w5 (tokO t)
         generalize w5.alloc _ = w6 at HE6 HP6 HO6 HX ⊢
         obtain ⟨A2, cap2, hv, hcap2, hrd, hA⟩ := HO6.out.form
         cases hv
         have c0 := cOb (o := 0) HX rfl
         have c1 := cOb (o := 1) HX rfl
         have c2 := cOb (o := 2) HX rfl
         have c3 := cOb (o := 3) HX rfl
         have dl := lHp HX
         have HRD := Hi hrd
         have HRDD : Hid (RdS w6.drew A acc) := Hi hrd
         clear HX hrd hA
         cases hc : acc.contains t.text with
         | true =>
           have HRR : Hid (excF l = .error (9, t :: r2)) := Hi (by rw [HL.out, HEX.out, namesF_eq, HN2.out]; simp only [bindR, excC, hc, if_true, guardR]; rfl)
           have HC := Hi hc
           clear hc
           refine wp_region_any (by kernel_rfl) ?_
           change wpAny _ _ _ _ _ _ _ (World.drew _)
           refine wpAny_take (i := 0) (v := ?_) rfl (by kernel_rfl) (by kernel_rfl) (by kernel_rfl) (fun _ _ _ h => h) (Or.inl ⟨by rfl, ?hy0_2⟩) ?rest0_2
           case hy0_2 =>
            intro w
            first | (go_simp; done) | (go_simp; rfl) | rfl
           refine wpAny_take (i := 1) (v := ?_) rfl (by kernel_rfl) (by kernel_rfl) (by kernel_rfl) (fun _ _ _ h => h) (Or.inl ⟨by rfl, ?hy1_2⟩) ?rest1_2
           case hy1_2 =>
            intro w
            first | (go_simp; done) | (go_simp; rfl) | rfl
           refine wpAny_ready (rs := [2, 4]) (by kernel_rfl) (by simp) ?_
           refine AllReady.cons rfl (fun K hK => ?_) ?_
           · go_simp
             refine hK _ _ ?_
             clear hK K
             refine wpAny_ready (rs := [3, 4]) (by kernel_rfl) (by simp) ?_
             refine AllReady.cons rfl (fun K hK => ?_) ?_
             · go_simp
               refine (containsS_any acc A cap t.text w6.drew HRDD.out (by omega)).mono ?_
               rintro e w7 ⟨rfl, rfl⟩
               rw [HC.out]
               go_simp
               refine hK _ _ ?_
               clear hK K
               refine wpAny_ready (rs := [4]) (by kernel_rfl) (by simp) ?_
               refine AllReady.cons rfl (fun K hK => ?_) ?_
               · go_simp
                 refine hK _ _ ?_
                 clear hK K
                 refine wpAny_ready (rs := [5]) (by kernel_rfl) (by simp) ?_
                 refine AllReady.cons rfl (fun K hK => ?_) ?_
                 · go_simp
                   refine (check_yes 9 t _).mono ?_
                   rintro e w7 ⟨rfl, hb7⟩
                   refine ⟨rfl, ?_⟩
                   rw [HRR.out]
                   exact ⟨rfl, HE6.out.trans ((Eff.of_below (p := p) ((Below.refl w6.heap.size w6).drew)).trans (Eff.of_below (p := p) hb7))⟩
                 exact AllReady.nil
               exact AllReady.nil
             refine AllReady.cons rfl (fun K hK => ?_) ?_
             · go_simp
               refine hK _ _ ?_
               clear hK K
               refine wpAny_ready (rs := [3]) (by kernel_rfl) (by simp) ?_
               refine AllReady.cons rfl (fun K hK => ?_) ?_
               · go_simp
                 refine (containsS_any acc A cap t.text w6.drew HRDD.out (by omega)).mono ?_
                 rintro e w7 ⟨rfl, rfl⟩
                 rw [HC.out]
                 go_simp
                 refine hK _ _ ?_
                 clear hK K
                 refine wpAny_ready (rs := [5]) (by kernel_rfl) (by simp) ?_
                 refine AllReady.cons rfl (fun K hK => ?_) ?_
                 · go_simp
                   refine (check_yes 9 t _).mono ?_
                   rintro e w7 ⟨rfl, hb7⟩
                   refine ⟨rfl, ?_⟩
                   rw [HRR.out]
                   exact ⟨rfl, HE6.out.trans ((Eff.of_below (p := p) ((Below.refl w6.heap.size w6).drew)).trans (Eff.of_below (p := p) hb7))⟩
                 exact AllReady.nil
               exact AllReady.nil
             exact AllReady.nil
           refine AllReady.cons rfl (fun K hK => ?_) ?_
           · go_simp
             refine hK _ _ ?_
             clear hK K
             refine wpAny_ready (rs := [2]) (by kernel_rfl) (by simp) ?_
             refine AllReady.cons rfl (fun K hK => ?_) ?_
             · go_simp
               refine hK _ _ ?_
               clear hK K
               refine wpAny_ready (rs := [3]) (by kernel_rfl) (by simp) ?_
               refine AllReady.cons rfl (fun K hK => ?_) ?_
               · go_simp
                 refine (containsS_any acc A cap t.text w6.drew HRDD.out (by omega)).mono ?_
                 rintro e w7 ⟨rfl, rfl⟩
                 rw [HC.out]
                 go_simp
                 refine hK _ _ ?_
                 clear hK K
                 refine wpAny_ready (rs := [5]) (by kernel_rfl) (by simp) ?_
                 refine AllReady.cons rfl (fun K hK => ?_) ?_
                 · go_simp
                   refine (check_yes 9 t _).mono ?_
                   rintro e w7 ⟨rfl, hb7⟩
                   refine ⟨rfl, ?_⟩
                   rw [HRR.out]
                   exact ⟨rfl, HE6.out.trans ((Eff.of_below (p := p) ((Below.refl w6.heap.size w6).drew)).trans (Eff.of_below (p := p) hb7))⟩
                 exact AllReady.nil
               exact AllReady.nil
             exact AllReady.nil
           exact AllReady.nil
         | false =>
           have HC := Hi hc
           clear hc
           refine wp_region_grew (by kernel_rfl) (by as_aux_lemma => kernel_rfl) ?_
           have HCN : ∀ y, Hid (Calls Tryz.prog 125 #[.slice A acc.length cap, vs t.text] (World.grew w6 y) fun e w' => e = .returned (.bool false) ∧ ∃ x, w' = World.grew w6 x) := fun y => Hi ((containsS_any acc A cap t.text _ (Sl.keep HRD.out (gBl w6 y).size (fun b o hA hlt => (gBl w6 y).block b hlt)) (by omega)).mono fun e w' ⟨h1, h2⟩ => ⟨by rw [h1, HC.out], y, h2.symm⟩)
           have HCK : ∀ y, Hid (Calls Tryz.prog 139 #[.bool false, .int .i64 9, .agg #[.int .i64 t.kind, vs t.text, .int .i64 t.n, .int .i64 t.pos]] (World.grew w6 y) fun e w' => e = .returned (.tuple #[]) ∧ ∃ x, w' = World.grew w6 x) := fun y => Hi (Calls_grew (check_no 9 t _))
           repeat (go_big_quiet_step ((first | exact (HCN _).out | exact (HCK _).out)))
           refine wpQuiet_nil ?_
           rintro _ ⟨y, rfl⟩
           have hb7 := gBl w6 y
           generalize World.grew w6 y = w7 at hb7 ⊢
           have HE7 := Hi (HE6.out.trans (Eff.of_below (p := p) hb7))
           have HP7 := Hi (HP6.out.below hb7)
           have HO7 := Hi (HO6.out.below hb7)
           have d0 := (hb7.cell (p := ⟨w5.heap.size, 0, none⟩) dl).trans c0
           have d1 := (hb7.cell (p := ⟨w5.heap.size, 1, none⟩) dl).trans c1
           have d2 := (hb7.cell (p := ⟨w5.heap.size, 2, none⟩) dl).trans c2
           have d3 := (hb7.cell (p := ⟨w5.heap.size, 3, none⟩) dl).trans c3
           have dl7 := Nat.lt_of_lt_of_le dl hb7.size
           clear hb7 c0 c1 c2 c3 dl HCN HCK
           by_cases h2 : acc.length = 20
           · have y1 : ((acc.length : Int) == 20) = true := by simp; omega
             have HRR : Hid (excF l = .error (2, t :: r2)) := Hi (by rw [HL.out, HEX.out, namesF_eq, HN2.out]; simp only [bindR, excC, HC.out, h2, if_true, guardR]; rfl)
             clear h2
             go_wp2_with fail
             refine (check_yes 2 t _).mono ?_
             rintro e w8 ⟨rfl, hb8⟩
             have HER := Hi (HE7.out.trans (Eff.of_below (p := p) hb8))
             clear hb8
             go_wp2_with fail
             refine ⟨rfl, ?_⟩
             rw [HRR.out]
             exact ⟨rfl, HER.out⟩
           · have y1 : ((acc.length : Int) == 20) = false := by simp; omega
             have HEXN : Hid (excF l = exI k' (acc ++ [t.text]) r2) := Hi (by rw [HL.out, HEX.out, namesF_eq, HN2.out]; simp only [bindR, excC, HC.out, h2, if_false, Bool.false_eq_true, guardR, if_true])
             have H2 := Hi h2
             clear h2
             go_wp2_with fail
             refine (check_no 2 t _).mono ?_
             rintro e w8 ⟨rfl, hb8⟩
             have HE8 := Hi (HE7.out.trans (Eff.of_below (p := p) hb8))
             have HP8 := Hi (HP7.out.below hb8)
             have HO8 := Hi (HO7.out.below hb8)
             have c1 := (hb8.cell (p := ⟨w5.heap.size, 1, none⟩) dl7).trans d1
             have dl8 := Nat.lt_of_lt_of_le dl7 hb8.size
             have hs8 := HE8.out.size
             have HO9 := Hi (HO8.out.eff (eff_alloc p w8 (.cells #[vs t.text] 9 (0, 0))) hpl)
             have HCELL : Hid ((w8.alloc (.cells #[vs t.text] 9 (0, 0))).cell? ⟨w8.heap.size, 0, none⟩ = some (vs t.text)) := Hi (cOb (heap_alloc_new w8 _) rfl)
             have hsz9 : w.heap.size ≤ (w8.alloc (.cells #[vs t.text] 9 (0, 0))).heap.size := by simp; omega
             have HSZ9 := Hi hsz9
             clear hb8 d0 d1 d2 d3 dl7 hsz9
             go_wp2_with (at_builtin; refine wpList_append_str rfl (.tmp 28) (.tmp 31) rfl w.heap.size (.slice A acc.length cap) acc w8.heap.size t.text rfl rfl HO9.out HCELL.out (by omega) HSZ9.out ?_; intro v' w9 ho hg)
             have hown' := HO9.out.own
             have hx : 22 - sliceLen v' < 22 - acc.length := by
              obtain ⟨A9, cap9, rfl, -⟩ := OwnS.form ho
              simp [sliceLen]
              omega
             exact ⟨⟨k', acc ++ [t.text], r2, by simp; omega, by have := H2.out; simp; omega, HL.out.symm.trans HEXN.out, (fits_alloc HP8.out _).grown hg (fun b hb => by have := (hown' b hb).1; omega), (HE8.out.trans (eff_alloc p w8 _)).grown hg (fun b hb => (hown' b hb).1), ho⟩, hx⟩
end So
namespace So
def zero23 : List Value := [.string ⟨#[]⟩, .int .i64 0, .int .i64 0, .string ⟨#[]⟩, .int .i64 0, .int .i64 0, .string ⟨#[]⟩, .int .i64 0, .int .i64 0, .slice none 0 0, .slice none 0 0, .int .i64 0, .string ⟨#[]⟩, .int .i64 0, .slice none 0 0, .int .i64 0, .string ⟨#[]⟩, .int .i64 0, .slice none 0 0, .int .i64 0, .string ⟨#[]⟩, .int .i64 0, .slice none 0 0]
/- a fact on blocks from base on -/
def Stab (base : Nat) (M : World → Prop) : Prop := ∀ a b : World, a.heap.size ≤ b.heap.size → (∀ k, base ≤ k → k < a.heap.size → b.heap[k]? = a.heap[k]?) → M a → M b
def RdEx (base : Nat) (A : Option Addr) (l : List (List UInt8)) (W : World) : Prop := RdS W A l ∧ ∀ b o, A = some ⟨b, o, none⟩ → base ≤ b ∧ b < W.heap.size
theorem Stab.exc {base : Nat} {A : Option Addr} {l : List (List UInt8)} : Stab base (RdEx base A l) := fun a b hs hk hm =>
 ⟨Sl.keep hm.1 hs (fun g o hA hlt => hk g (hm.2 g o hA).1 hlt), fun g o hA => ⟨(hm.2 g o hA).1, Nat.lt_of_lt_of_le (hm.2 g o hA).2 hs⟩⟩
/- a provision in memory -/
def RdProv (base : Nat) (W : World) (cs : List Value) (P : Prov) : Prop := ∃ cc A cap cb cf ca, cs = [vs P.id, .int .i64 P.rank, .int .i64 P.kind, vs P.name, .int .i64 P.value] ++ (cc ++ (.slice A P.exc.length cap :: (cb ++ (cf ++ ca)))) ∧ P.exc.length ≤ cap ∧
 RdTree true (fun k => base ≤ k) W cc P.cond ∧ RdEx base A P.exc W ∧ RdTree false (fun k => base ≤ k) W cb P.beg ∧ RdTree false (fun k => base ≤ k) W cf P.fin ∧ RdTree false (fun k => base ≤ k) W ca P.aga
abbrev ProvV (w : World) (P : Prov) (v : Value) (w' : World) : Prop := ∃ cs : List Value, v = .agg cs.toArray ∧ RdProv w.heap.size w' cs P
end So
namespace So
theorem tcs_X (fm : Bool) (op : Nat) (name : List UInt8) (cmp n : Nat) (s : Value) : tcs fm op name cmp n s = tcX fm op name cmp n s := by cases fm <;> rfl
theorem tsz_X (fm : Bool) : tsz fm = tszX fm := rfl
mutual
theorem RdTree.toX {fm : Bool} {S : Nat → Prop} {w : World} : ∀ {cs : List Value} {t : Tree}, RdTree fm S w cs t → RdX fm w cs (up t)
 | cs, .mk op name cmp n ks, h => by
   obtain ⟨A, cap, h1, h2, h3⟩ := h
   rw [up, RdX]
   refine ⟨A, cap, by rw [ups_len, h1, tcs_X], by rw [ups_len]; exact h2, ?_⟩
   rcases h3 with h3 | ⟨b, o, hA, hS, hb, h3⟩
   · subst h3
     exact .inl (by rw [ups])
   · exact .inr ⟨b, o, hA, hb, RdKids.toX h3⟩
theorem RdKids.toX {fm : Bool} {S : Nat → Prop} {w : World} {b : Nat} : ∀ {o : Nat} {ks : List Tree}, RdKids fm S w b o ks → RdXs fm w b o (ups ks)
 | o, [], h => by rw [ups, RdXs]; trivial
 | o, t :: r, h => by
   rw [RdKids] at h
   rw [ups, RdXs]
   obtain ⟨⟨cs, h1, h2⟩, h3⟩ := h
   exact ⟨⟨cs, h1, RdTree.toX h2⟩, by rw [← tsz_X]; exact RdKids.toX h3⟩
end
theorem RdProv.toX {base : Nat} {w : World} {cs : List Value} {P : Prov} (h : RdProv base w cs P) : RdPX w cs (upP P) := by
 obtain ⟨cc, A, cap, cb, cf, ca, h1, h2, h3, h4, h5, h6, h7⟩ := h
 exact ⟨cc, A, cap, cb, cf, ca, h1, h2, h3.toX, h4.1, h5.toX, h6.toX, h7.toX⟩
end So
end Go.Proofs.YtbicmjmcdnkjhaaGreatDoor
