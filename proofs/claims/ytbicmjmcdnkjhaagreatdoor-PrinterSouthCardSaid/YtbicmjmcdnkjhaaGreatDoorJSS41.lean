/- braces. -/
import Derived.Test.YtbicmjmcdnkjhaaGreatDoorJSS1
import Derived.Test.YtbicmjmcdnkjhaaGreatDoorJSS40
import Derived.Outline
set_option linter.unusedVariables false
set_option linter.unusedSimpArgs false
set_option maxRecDepth 20000
set_option maxHeartbeats 8000000
namespace Go.Proofs.YtbicmjmcdnkjhaaGreatDoor
namespace So
open Go.RowKit
/- what braces answers -/
def OutT (fm : Bool) (p fin sb : Nat) (ts : List Tok) (w : World) (res : R Tree) (e : Ending) (w' : World) : Prop :=
 match res with
 | .ok (t, r) => ∃ cs : List Value, e = .returned (.agg cs.toArray) ∧ RdTree fm (fun b => w.heap.size ≤ b) w' cs t ∧ PS w' p fin ts r ∧ EffS p sb w.heap.size w w'
 | .error (er, s) => e = stopE er (posAt fin s) ∧ EffS p sb w.heap.size w w'
theorem SK.start {fm : Bool} {w : World} {sb p base fj : Nat} (h : w.heap[sb]? = some (.cells #[.pointer (some ⟨p, 0, none⟩), .slice none 0 0, .func (.func fj) #[] #[]] (sE fm) (0, 0))) (hlt : sb < base) (hp : p < sb) : SK fm w sb p base fj [] :=
 ⟨⟨_, h, OwnE.nil⟩, hlt, hp, by simp, fun x hx => by cases hx⟩
theorem EffS.lower {p sb base base' : Nat} {w w' : World} (h : EffS p sb base w w') (hb : base' ≤ base) : EffS p sb base' w w' := ⟨h.os, h.tape, h.output, h.size, fun k h1 h2 h3 h4 => h.block k h1 h2 h3 (by omega)⟩
theorem top_of {st : Stack} {l : List Tok} (h : st.length ≠ 1) : topF st l = failR l := by
 match st, h with
 | [], _ => rfl
 | [x], h => exact absurd rfl h
 | _ :: _ :: _, _ => rfl
theorem combine_len {op k : Nat} {a r r' : List Tok} {st st' : Stack} (h : combineF op k a st r = .ok (st', r')) (hk : 1 ≤ k) : st'.length ≤ st.length := by
 rcases combine_out (op := op) (k := k) (at' := a) (st := st) (r := r) with ⟨-, h2⟩ | ⟨n, h1, ⟨-, h2⟩ | ⟨-, h2⟩⟩
 · rw [h2] at h; cases h
 · rw [h2] at h; cases h
 · rw [h2] at h; cases h; simp; omega
theorem group_len {op : Nat} {a r r' : List Tok} {st st' : Stack} (h : groupF op a st r = .ok (st', r')) : st'.length ≤ st.length := by
 unfold groupF at h
 cases hn : numberF r with
 | error e => rw [hn] at h; cases h
 | ok v =>
   obtain ⟨k, r2⟩ := v
   rw [hn] at h
   simp only [bindR] at h
   split at h
   · cases h
   · exact combine_len h (by omega)
theorem bind_ok {α β : Type} {x : R α} {f : α → List Tok → R β} {y : β × List Tok} (h : bindR x f = .ok y) : ∃ a r, x = .ok (a, r) ∧ f a r = .ok y := by
 cases x with
 | error e => cases h
 | ok v => exact ⟨v.1, v.2, rfl, h⟩
theorem isF_ok {α : Type} {w : List UInt8} {l : List Tok} {y n : List Tok → R α} {z : α × List Tok} (h : isF w l y n = .ok z) : y l.tail = .ok z ∨ n l = .ok z := by
 unfold isF at h
 split at h
 · exact .inl h
 · exact .inr h
theorem push_len {st st' : Stack} {t : Tree} {r r' : List Tok} (h : pushF st t r = .ok (st', r')) : st'.length ≤ st.length + 1 := by
 unfold pushF at h
 cases h
 simp
theorem item_len_f {st st' : Stack} {l r : List Tok} (h : itemF st l = .ok (st', r)) : st'.length ≤ st.length + 1 := by
 unfold itemF at h
 rcases isF_ok h with h | h
 · exact push_len h
 rcases isF_ok h with h | h
 · exact push_len h
 rcases isF_ok h with h | h
 · exact Nat.le_succ_of_le (combine_len h (by decide))
 rcases isF_ok h with h | h
 · exact Nat.le_succ_of_le (group_len h)
 rcases isF_ok h with h | h
 · exact Nat.le_succ_of_le (group_len h)
 obtain ⟨s, r1, -, h⟩ := bind_ok h
 rcases isF_ok h with h | h
 · exact push_len h
 unfold testF at h
 obtain ⟨v, r2, -, h⟩ := bind_ok h
 obtain ⟨c, r3, -, h⟩ := bind_ok h
 exact push_len h
theorem item_len_s {st st' : Stack} {l r : List Tok} (h : sitemF st l = .ok (st', r)) : st'.length ≤ st.length + 1 := by
 unfold sitemF at h
 rcases isF_ok h with h | h
 · exact push_len h
 rcases isF_ok h with h | h
 · exact push_len h
 rcases isF_ok h with h | h
 · exact Nat.le_succ_of_le (group_len h)
 rcases isF_ok h with h | h
 · exact Nat.le_succ_of_le (group_len h)
 split at h
 · obtain ⟨v, r2, -, h⟩ := bind_ok h
   obtain ⟨c, r3, -, h⟩ := bind_ok h
   exact push_len h
 · obtain ⟨v, r2, -, h⟩ := bind_ok h
   obtain ⟨c, r3, -, h⟩ := bind_ok h
   exact push_len h
theorem braces_f (pb sbb mb mp n p sb fin : Nat) (ts l : List Tok) (w : World) (hp : PS w p fin ts l) (hsb : w.heap[sb]? = some (.cells #[.pointer (some ⟨p, 0, none⟩), .slice none 0 0, .func (.func 130) #[] #[]] (sE true) (0, 0))) (hps : p < sb) (hcap : Cap w pb sbb mb mp n 1 p sb (w.heap.size + 1) [[101, 113, 117, 97, 108], [117, 110, 108, 105, 107, 101], [98, 101, 108, 111, 119], [109, 111, 115, 116], [97, 98, 111, 118, 101], [108, 101, 97, 115, 116]]) :
 Calls Tryz.prog 133 #[.pointer (some ⟨sb, 0, none⟩), .func (.func 131) #[] #[.pointer (some ⟨pb, 0, none⟩)], .func (.func 134) #[] #[.pointer (some ⟨pb, 0, none⟩), .pointer (some ⟨sbb, 0, none⟩), .pointer (some ⟨mb, 0, none⟩)]] w (OutT true p fin sb ts w (formulaF l)) := by
 have hsl := lHp hsb
 have hal : Below w.heap.size w (w.alloc (.cells #[.int .i64 0, .string ⟨#[]⟩, .int .i64 0, .int .i64 0, .slice none 0 0] 24 (0, 0))) := (Below.refl _ _).alloc (lR _) _
 have HAL := Hi hal
 have hsb1 := (hal.block _ hsl).trans hsb
 have HSK : Hid (SK true (w.alloc (.cells #[.int .i64 0, .string ⟨#[]⟩, .int .i64 0, .int .i64 0, .slice none 0 0] 24 (0, 0))) sb p (w.heap.size + 1) 130 []) := Hi (SK.start hsb1 (by omega) hps)
 have HP := Hi (hp.below hal)
 have HCAP := Hi (hcap.below hal)
 have HRB := Hi (heap_alloc_new w (.cells #[.int .i64 0, .string ⟨#[]⟩, .int .i64 0, .int .i64 0, .slice none 0 0] 24 (0, 0)))
 have c0 := cOb (o := 0) hsb rfl
 have HPN := Hi hps
 have HSLT := Hi hsl
 have hz1 : (w.alloc (.cells #[.int .i64 0, .string ⟨#[]⟩, .int .i64 0, .int .i64 0, .slice none 0 0] 24 (0, 0))).heap.size = w.heap.size + 1 := by simp
 have HZ1 := Hi hz1
 clear hp hsb hps hcap hal hsb1 hz1
 go_enter Tryz.func133, Tryz.ntmps133
 go_wp2_with fail
 generalize w.alloc (.cells #[.int .i64 0, .string ⟨#[]⟩, .int .i64 0, .int .i64 0, .slice none 0 0] 24 (0, 0)) = w1 at HSK HP HCAP HRB HAL HZ1 ⊢
 have hmu := must_any [123] p fin ts l w1 HP.out
 cases hq : mustF [123] l with
 | error x =>
   obtain ⟨c, s⟩ := x
   rw [hq] at hmu
   have HRR : Hid (formulaF l = .error (c, s)) := Hi (by unfold formulaF bracesF; rw [hq]; rfl)
   refine hmu.mono ?_
   rintro e w2 ⟨rfl, he⟩
   have HER := Hi (((Eff.of_below (p := p) HAL.out).trans he).toS sb w.heap.size)
   clear hmu hq he
   go_wp2_with fail
   refine ⟨rfl, ?_⟩
   rw [HRR.out]
   exact ⟨rfl, HER.out⟩
 | ok x =>
   obtain ⟨u, r0⟩ := x
   rw [hq] at hmu
   have HB : Hid (formulaF l = bindR (loopF beginsF itemF 201 [] r0) topF) := Hi (by unfold formulaF bracesF; rw [hq]; rfl)
   refine hmu.mono ?_
   rintro e w2 ⟨vv, rfl, rfl, hp2, he2⟩
   have HI2 : Hid (ItS true w1 w2 pb sbb mb mp n 1 p sb (w.heap.size + 1) 130 fin [[101, 113, 117, 97, 108], [117, 110, 108, 105, 107, 101], [98, 101, 108, 111, 119], [109, 111, 115, 116], [97, 98, 111, 118, 101], [108, 101, 97, 115, 116]] ts r0 []) := Hi ⟨hp2, HSK.out.eff he2, HCAP.out.keep (he2.toS _ _), he2.toS _ _⟩
   have HSZ1 : Hid (w.heap.size + 1 ≤ w1.heap.size) := Hi (by rw [HZ1.out]; exact lR _)
   clear hmu hq hp2 he2 c0
   go_wp2_with fail
   go_loopw [7] (fun v7 wr => ∃ (f j : Nat) (st : Stack) (r : List Tok), j + (f + 1) = 201 ∧ v7 = .int .i64 j ∧ st.length ≤ j ∧ loopF beginsF itemF 201 [] r0 = loopF beginsF itemF (f + 1) st r ∧ ItS true w1 wr pb sbb mb mp n 1 p sb (w.heap.size + 1) 130 fin [[101, 113, 117, 97, 108], [117, 110, 108, 105, 107, 101], [98, 101, 108, 111, 119], [109, 111, 115, 116], [97, 98, 111, 118, 101], [108, 101, 97, 115, 116]] ts r st) (fun v7 _ => 201 - (intOf v7).toNat)
   case atStart => exact ⟨200, 0, [], r0, rfl, rfl, lR _, rfl, HI2.out⟩
   case round =>
    obtain ⟨f, j, st, r, hfj, rfl, hst, hloop, hi⟩ := hrel
    have HI := Hi hi
    have HLP := Hi hloop
    obtain ⟨v, hb, hown⟩ := hi.sk.is
    obtain ⟨A, cap, rfl⟩ := hown.form
    have c0 := cOb (o := 0) hb rfl
    have sl := lHp hb
    have HSTL := Hi hst
    have hal : Below wr.heap.size wr (wr.alloc (.cells #[vs [125]] 9 (0, 0))) := (Below.refl _ _).alloc (lR _) _
    have HAR := Hi hal
    clear hi hloop hb hown hst hal
    go_wp2_with fail
    refine (sees_any [[125]] (some ⟨wr.heap.size, 0, none⟩) 1 p fin ts r _ (HI.out.ps.below HAR.out) (RdS.new (heap_alloc_new wr _)) (by decide)).mono ?_
    rintro e w3 ⟨rfl, hb3⟩
    have HI3 := Hi (HI.out.below (HAR.out.trans (hb3.mono HAR.out.size)))
    clear c0 sl hb3
    obtain ⟨v3, hb3, hown3⟩ := HI3.out.sk.is
    obtain ⟨A3, cap3, rfl⟩ := hown3.form
    have c0 := cOb (o := 0) hb3 rfl
    have c1 := cOb (o := 1) hb3 rfl
    have sl := lHp hb3
    have HOW := Hi hown3
    clear hb3 hown3
    cases hs : seesF [[125]] r with
    | false =>
      have HQ := Hi hs
      clear hs
      go_wp2_with fail
      refine (begins_f pb p fin ts r _ HI3.out.ps HI3.out.cap.p0).mono ?_
      rintro e w4 ⟨rfl, hb4⟩
      have HI4 := Hi (HI3.out.below hb4)
      clear c0 c1 sl hb4 HOW
      obtain ⟨v4, hb4, hown4⟩ := HI4.out.sk.is
      have c0 := cOb (o := 0) hb4 rfl
      have sl := lHp hb4
      clear hb4 hown4
      cases hs : beginsF r with
      | false =>
        have HQ2 := Hi hs
        clear hs
        go_wp2_with fail
        refine (fail_any p fin ts r _ HI4.out.ps).mono ?_
        rintro e w5 ⟨rfl, hb5⟩
        have HRR : Hid (formulaF l = .error (failC r, r)) := Hi (by rw [HB.out, HLP.out, loopF, if_neg (by rw [HQ.out]; decide), if_neg (by rw [HQ2.out]; decide)]; rfl)
        have HER := Hi (((Eff.of_below (p := p) HAL.out).toS sb w.heap.size).trans ((HI4.out.eff.lower (Nat.le_succ _)).trans ((Eff.of_below (p := p) hb5).toS sb w.heap.size)))
        clear hb5
        go_wp2_with fail
        refine ⟨rfl, ?_⟩
        rw [HRR.out]
        exact ⟨rfl, HER.out⟩
      | true =>
        have HQ2 := Hi hs
        clear hs
        go_wp2_with fail
        refine (peek_any p fin ts r _ HI4.out.ps).mono ?_
        rintro e w5 ⟨rfl, hb5⟩
        have HI5 := Hi (HI4.out.below hb5)
        have HT : Hid (posAt fin r = (headT fin r).pos) := Hi (by cases r <;> rfl)
        generalize headT fin r = T at HT ⊢
        clear c0 sl hb5
        by_cases hf : f = 0
        · subst hf
          obtain rfl : j = 200 := by omega
          go_wp2_with fail
          refine (check_yes 2 T _).mono ?_
          rintro e w6 ⟨rfl, hb6⟩
          have HRR : Hid (formulaF l = .error (2, r)) := Hi (by rw [HB.out, HLP.out, loopF, if_neg (by rw [HQ.out]; decide), if_pos HQ2.out, if_pos rfl]; rfl)
          have HER := Hi (((Eff.of_below (p := p) HAL.out).toS sb w.heap.size).trans ((HI5.out.eff.lower (Nat.le_succ _)).trans ((Eff.of_below (p := p) hb6).toS sb w.heap.size)))
          clear hb6
          go_wp2_with fail
          refine ⟨rfl, ?_⟩
          rw [HRR.out]
          exact ⟨by rw [HT.out]; rfl, HER.out⟩
        · have i1 : ((j : Int) == 200) = false := by simp; omega
          have hlt : st.length < 200 := by have := HSTL.out; omega
          have HFN := Hi hf
          clear hf
          go_wp2_with fail
          refine (check_no 2 T _).mono ?_
          rintro e w6 ⟨rfl, hb6⟩
          have HI6 := Hi (HI5.out.below hb6)
          clear hb6
          go_wp2_with fail
          have hbw6 : w.heap.size + 1 ≤ w6.heap.size := Nat.le_trans HSZ1.out HI6.out.eff.size
          refine (item_f pb sbb mb mp n p sb (w.heap.size + 1) fin ts r st w6 ⟨HI6.out.ps, HI6.out.sk, HI6.out.cap, EffS.refl _ _ _ _⟩ hlt hbw6).mono ?_
          intro e w7 ho
          cases hq : itemF st r with
          | error x =>
            obtain ⟨c, s⟩ := x
            rw [hq] at ho
            obtain ⟨rfl, h2⟩ := ho
            have HRR : Hid (formulaF l = .error (c, s)) := Hi (by rw [HB.out, HLP.out, loopF, if_neg (by rw [HQ.out]; decide), if_pos HQ2.out, if_neg HFN.out, hq]; rfl)
            have HER := Hi (((Eff.of_below (p := p) HAL.out).toS sb w.heap.size).trans ((HI6.out.eff.trans h2).lower (Nat.le_succ _)))
            clear h2 hq
            go_wp2_with fail
            refine ⟨rfl, ?_⟩
            rw [HRR.out]
            exact ⟨rfl, HER.out⟩
          | ok x =>
            obtain ⟨st', r'⟩ := x
            rw [hq] at ho
            obtain ⟨rfl, g1, g2, g3⟩ := ho
            have HLP2 : Hid (loopF beginsF itemF 201 [] r0 = loopF beginsF itemF f st' r') := Hi (by rw [HLP.out, loopF, if_neg (by rw [HQ.out]; decide), if_pos HQ2.out, if_neg HFN.out, hq]; rfl)
            have HSL : Hid (st'.length ≤ st.length + 1) := Hi (item_len_f hq)
            have HI7 : Hid (ItS true w1 w7 pb sbb mb mp n 1 p sb (w.heap.size + 1) 130 fin [[101, 113, 117, 97, 108], [117, 110, 108, 105, 107, 101], [98, 101, 108, 111, 119], [109, 111, 115, 116], [97, 98, 111, 118, 101], [108, 101, 97, 115, 116]] ts r' st') := Hi ⟨g2, g1, HI6.out.cap.keep g3, HI6.out.eff.trans g3⟩
            clear g1 g2 g3 hq
            go_wp2_with fail
            obtain ⟨f', rfl⟩ : ∃ f', f = f' + 1 := ⟨f - 1, by have := HFN.out; omega⟩
            exact ⟨⟨f', j + 1, st', r', by omega, by go_num, by have := HSL.out; have := HSTL.out; omega, HLP2.out, HI7.out⟩, by simp [intOf]; omega⟩
    | true =>
      have HQ := Hi hs
      have HB2 : Hid (formulaF l = topF st r) := Hi (by rw [HB.out, HLP.out, loopF, if_pos hs]; rfl)
      clear hs
      by_cases h1 : st.length = 1
      · obtain ⟨x, rfl⟩ := List.length_eq_one_iff.1 h1
        have i1 : ((1 : Nat) : Int) = 1 := rfl
        clear h1
        go_wp2_with fail
        have hmu := must_any [125] p fin ts r w3 HI3.out.ps
        cases hq : mustF [125] r with
        | error x =>
          obtain ⟨c, s⟩ := x
          rw [hq] at hmu
          have HRR : Hid (formulaF l = .error (c, s)) := Hi (by rw [HB2.out, topF, hq]; rfl)
          refine hmu.mono ?_
          rintro e w4 ⟨rfl, he⟩
          have HER := Hi (((Eff.of_below (p := p) HAL.out).toS sb w.heap.size).trans ((HI3.out.eff.lower (Nat.le_succ _)).trans (he.toS sb w.heap.size)))
          clear hmu hq he
          go_wp2_with fail
          refine ⟨rfl, ?_⟩
          rw [HRR.out]
          exact ⟨rfl, HER.out⟩
        | ok y =>
          obtain ⟨u2, r2⟩ := y
          rw [hq] at hmu
          have HRR : Hid (formulaF l = .ok (x.1, r2)) := Hi (by rw [HB2.out, topF, hq]; rfl)
          refine hmu.mono ?_
          rintro e w4 ⟨vv, rfl, rfl, hp4, he4⟩
          have HI4 : Hid (ItS true w1 w4 pb sbb mb mp n 1 p sb (w.heap.size + 1) 130 fin [[101, 113, 117, 97, 108], [117, 110, 108, 105, 107, 101], [98, 101, 108, 111, 119], [109, 111, 115, 116], [97, 98, 111, 118, 101], [108, 101, 97, 115, 116]] ts r2 [x]) := Hi ⟨hp4, HI3.out.sk.eff he4, HI3.out.cap.keep (he4.toS _ _), HI3.out.eff.trans (he4.toS _ _)⟩
          clear hmu hq hp4 he4 c0 c1 sl HOW
          obtain ⟨v4, hb4, hown4⟩ := HI4.out.sk.is
          obtain ⟨g, cap4, rfl, hg1, hg2, hg3, hg4, hat⟩ := hown4.at (by simp)
          obtain ⟨cs, hcs, tc, rfl, hrt⟩ := hat 0 x rfl
          obtain ⟨t, d⟩ := x
          obtain ⟨o', nm', cm', m', ks'⟩ := t
          obtain ⟨A', cap', rfl, hk1, hk2⟩ := hrt
          have c1 := cOb (o := 1) hb4 rfl
          have sl := lHp hb4
          have e0 : ∀ (j : Nat) u, ((tcs true o' nm' cm' m' (.slice A' ks'.length cap') ++ [.int .i64 (d : Int)]) : List Value)[j]? = some u → w4.cell? ⟨g, j, none⟩ = some u := fun j u hu => by have := hcs j u hu; rwa [Nat.zero_mul, Nat.zero_add] at this
          have x0 := e0 0 _ rfl
          have x1 := e0 1 _ rfl
          have x2 := e0 2 _ rfl
          have x3 := e0 3 _ rfl
          have x4 := e0 4 _ rfl
          have hrb4 := (HI4.out.eff.block w.heap.size (by rw [HZ1.out]; omega) (by have := HPN.out; have := HSLT.out; omega) (by have := HSLT.out; omega) (by omega)).trans HRB.out
          have HRB4 := Hi hrb4
          have r0 := cOb (o := 0) hrb4 rfl
          have f0 := fOb (o := 0) hrb4
          have r1 := cOb (o := 1) hrb4 rfl
          have f1 := fOb (o := 1) hrb4
          have r2 := cOb (o := 2) hrb4 rfl
          have f2 := fOb (o := 2) hrb4
          have r3 := cOb (o := 3) hrb4 rfl
          have f3 := fOb (o := 3) hrb4
          have r4 := cOb (o := 4) hrb4 rfl
          have f4 := fOb (o := 4) hrb4
          have rl := lHp hrb4
          have HRT : Hid (RdTree true (fun b => w.heap.size + 1 ≤ b) w4 (tcs true o' nm' cm' m' (.slice A' ks'.length cap')) (.mk o' nm' cm' m' ks')) := Hi (RdTree.keep (lR _) (fun b hb _ => ⟨hb.1, rfl⟩) (⟨A', cap', rfl, hk1, hk2⟩ : RdTree true (fun b => w.heap.size + 1 ≤ b ∧ b ≠ g) w4 _ (.mk o' nm' cm' m' ks')))
          clear hb4 hown4 hat hcs e0 hrb4 hk1 hk2
          go_wp2_with fail
          have ho : Off w.heap.size w4 ((((((w4).setCell ⟨w.heap.size, 0, none⟩ (.int .i64 (o' : Int))).setCell ⟨w.heap.size, 1, none⟩ (vs nm')).setCell ⟨w.heap.size, 2, none⟩ (.int .i64 (cm' : Int))).setCell ⟨w.heap.size, 3, none⟩ (.int .i64 (m' : Int))).setCell ⟨w.heap.size, 4, none⟩ (.slice A' ks'.length cap')) := (((((Off.refl _ _).set (o := 0) _).set (o := 1) _).set (o := 2) _).set (o := 3) _).set (o := 4) _
          have hrow : ((((((w4).setCell ⟨w.heap.size, 0, none⟩ (.int .i64 (o' : Int))).setCell ⟨w.heap.size, 1, none⟩ (vs nm')).setCell ⟨w.heap.size, 2, none⟩ (.int .i64 (cm' : Int))).setCell ⟨w.heap.size, 3, none⟩ (.int .i64 (m' : Int))).setCell ⟨w.heap.size, 4, none⟩ (.slice A' ks'.length cap')).heap[w.heap.size]? = some (.cells #[.int .i64 (o' : Int), vs nm', .int .i64 (cm' : Int), .int .i64 (m' : Int), .slice A' ks'.length cap'] 24 (0, 0)) := by
           have q := HRB4.out
           have q := rSc (o := 0) (u := .int .i64 (o' : Int)) q
           have q := rSc (o := 1) (u := vs nm') q
           have q := rSc (o := 2) (u := .int .i64 (cm' : Int)) q
           have q := rSc (o := 3) (u := .int .i64 (m' : Int)) q
           have q := rSc (o := 4) (u := .slice A' ks'.length cap') q
           simpa using q
          generalize ((((((w4).setCell ⟨w.heap.size, 0, none⟩ (.int .i64 (o' : Int))).setCell ⟨w.heap.size, 1, none⟩ (vs nm')).setCell ⟨w.heap.size, 2, none⟩ (.int .i64 (cm' : Int))).setCell ⟨w.heap.size, 3, none⟩ (.int .i64 (m' : Int))).setCell ⟨w.heap.size, 4, none⟩ (.slice A' ks'.length cap')) = w5 at ho hrow ⊢
          have g0 := cOb (o := 0) hrow rfl
          have g1 := cOb (o := 1) hrow rfl
          have g2 := cOb (o := 2) hrow rfl
          have g3 := cOb (o := 3) hrow rfl
          have g4 := cOb (o := 4) hrow rfl
          refine bodyPost_ret (v := .agg (tcs true o' nm' cm' m' (.slice A' ks'.length cap')).toArray) (by simp [results, Tryz.results133, go_sem, tcs, g0, g1, g2, g3, g4]) rfl ?_
          have hef : EffS p sb w.heap.size w w5 := ⟨ho.os.trans (HI4.out.eff.os.trans HAL.out.os), ho.tape.trans (HI4.out.eff.tape.trans HAL.out.tape), ho.output.trans (HI4.out.eff.output.trans HAL.out.output), by rw [ho.size]; exact Nat.le_trans HAL.out.size HI4.out.eff.size, fun k k1 k2 k3 k4 => (ho.block k (by omega)).trans ((HI4.out.eff.block k (by rw [HZ1.out]; omega) k2 k3 (by omega)).trans (HAL.out.block k k1))⟩
          rw [HRR.out]
          exact ⟨_, rfl, HRT.out.keep (by rw [ho.size]; exact lR _) (fun b hb _ => ⟨by omega, ho.block b (by omega)⟩), HI4.out.ps.off ho (by have := HPN.out; have := HSLT.out; omega), hef⟩
      · have i1 : ((st.length : Int) != 1) = true := by simp; omega
        have i2 : ((st.length : Int) == 1) = false := by simp; omega
        have HRR : Hid (formulaF l = .error (failC r, r)) := Hi (by rw [HB2.out, top_of h1]; rfl)
        clear h1
        go_wp2_with fail
        refine (fail_any p fin ts r _ HI3.out.ps).mono ?_
        rintro e w5 ⟨rfl, hb5⟩
        have HER := Hi (((Eff.of_below (p := p) HAL.out).toS sb w.heap.size).trans ((HI3.out.eff.lower (Nat.le_succ _)).trans ((Eff.of_below (p := p) hb5).toS sb w.heap.size)))
        clear hb5
        go_wp2_with fail
        refine ⟨rfl, ?_⟩
        rw [HRR.out]
        exact ⟨rfl, HER.out⟩
theorem braces_s (pb sbb mb mp n p sb fin : Nat) (ts l : List Tok) (w : World) (hp : PS w p fin ts l) (hsb : w.heap[sb]? = some (.cells #[.pointer (some ⟨p, 0, none⟩), .slice none 0 0, .func (.func 140) #[] #[]] (sE false) (0, 0))) (hps : p < sb) (hcap : Cap w pb sbb mb mp n 4 p sb (w.heap.size + 1) [[100, 101, 99, 114, 101, 101], [101, 118, 101, 110, 116], [98, 101, 103, 117, 110], [111, 118, 101, 114]]) :
 Calls Tryz.prog 143 #[.pointer (some ⟨sb, 0, none⟩), .func (.func 141) #[] #[.pointer (some ⟨pb, 0, none⟩)], .func (.func 144) #[] #[.pointer (some ⟨pb, 0, none⟩), .pointer (some ⟨sbb, 0, none⟩), .pointer (some ⟨mb, 0, none⟩)]] w (OutT false p fin sb ts w (startF l)) := by
 have hsl := lHp hsb
 have hal : Below w.heap.size w (w.alloc (.cells #[.int .i64 0, .string ⟨#[]⟩, .int .i64 0, .slice none 0 0] 28 (0, 0))) := (Below.refl _ _).alloc (lR _) _
 have HAL := Hi hal
 have hsb1 := (hal.block _ hsl).trans hsb
 have HSK : Hid (SK false (w.alloc (.cells #[.int .i64 0, .string ⟨#[]⟩, .int .i64 0, .slice none 0 0] 28 (0, 0))) sb p (w.heap.size + 1) 140 []) := Hi (SK.start hsb1 (by omega) hps)
 have HP := Hi (hp.below hal)
 have HCAP := Hi (hcap.below hal)
 have HRB := Hi (heap_alloc_new w (.cells #[.int .i64 0, .string ⟨#[]⟩, .int .i64 0, .slice none 0 0] 28 (0, 0)))
 have c0 := cOb (o := 0) hsb rfl
 have HPN := Hi hps
 have HSLT := Hi hsl
 have hz1 : (w.alloc (.cells #[.int .i64 0, .string ⟨#[]⟩, .int .i64 0, .slice none 0 0] 28 (0, 0))).heap.size = w.heap.size + 1 := by simp
 have HZ1 := Hi hz1
 clear hp hsb hps hcap hal hsb1 hz1
 go_enter Tryz.func143, Tryz.ntmps143
 go_wp2_with fail
 generalize w.alloc (.cells #[.int .i64 0, .string ⟨#[]⟩, .int .i64 0, .slice none 0 0] 28 (0, 0)) = w1 at HSK HP HCAP HRB HAL HZ1 ⊢
 have hmu := must_any [123] p fin ts l w1 HP.out
 cases hq : mustF [123] l with
 | error x =>
   obtain ⟨c, s⟩ := x
   rw [hq] at hmu
   have HRR : Hid (startF l = .error (c, s)) := Hi (by unfold startF bracesF; rw [hq]; rfl)
   refine hmu.mono ?_
   rintro e w2 ⟨rfl, he⟩
   have HER := Hi (((Eff.of_below (p := p) HAL.out).trans he).toS sb w.heap.size)
   clear hmu hq he
   go_wp2_with fail
   refine ⟨rfl, ?_⟩
   rw [HRR.out]
   exact ⟨rfl, HER.out⟩
 | ok x =>
   obtain ⟨u, r0⟩ := x
   rw [hq] at hmu
   have HB : Hid (startF l = bindR (loopF beginsS sitemF 201 [] r0) topF) := Hi (by unfold startF bracesF; rw [hq]; rfl)
   refine hmu.mono ?_
   rintro e w2 ⟨vv, rfl, rfl, hp2, he2⟩
   have HI2 : Hid (ItS false w1 w2 pb sbb mb mp n 4 p sb (w.heap.size + 1) 140 fin [[100, 101, 99, 114, 101, 101], [101, 118, 101, 110, 116], [98, 101, 103, 117, 110], [111, 118, 101, 114]] ts r0 []) := Hi ⟨hp2, HSK.out.eff he2, HCAP.out.keep (he2.toS _ _), he2.toS _ _⟩
   have HSZ1 : Hid (w.heap.size + 1 ≤ w1.heap.size) := Hi (by rw [HZ1.out]; exact lR _)
   clear hmu hq hp2 he2 c0
   go_wp2_with fail
   go_loopw [7] (fun v7 wr => ∃ (f j : Nat) (st : Stack) (r : List Tok), j + (f + 1) = 201 ∧ v7 = .int .i64 j ∧ st.length ≤ j ∧ loopF beginsS sitemF 201 [] r0 = loopF beginsS sitemF (f + 1) st r ∧ ItS false w1 wr pb sbb mb mp n 4 p sb (w.heap.size + 1) 140 fin [[100, 101, 99, 114, 101, 101], [101, 118, 101, 110, 116], [98, 101, 103, 117, 110], [111, 118, 101, 114]] ts r st) (fun v7 _ => 201 - (intOf v7).toNat)
   case atStart => exact ⟨200, 0, [], r0, rfl, rfl, lR _, rfl, HI2.out⟩
   case round =>
    obtain ⟨f, j, st, r, hfj, rfl, hst, hloop, hi⟩ := hrel
    have HI := Hi hi
    have HLP := Hi hloop
    obtain ⟨v, hb, hown⟩ := hi.sk.is
    obtain ⟨A, cap, rfl⟩ := hown.form
    have c0 := cOb (o := 0) hb rfl
    have sl := lHp hb
    have HSTL := Hi hst
    have hal : Below wr.heap.size wr (wr.alloc (.cells #[vs [125]] 9 (0, 0))) := (Below.refl _ _).alloc (lR _) _
    have HAR := Hi hal
    clear hi hloop hb hown hst hal
    go_wp2_with fail
    refine (sees_any [[125]] (some ⟨wr.heap.size, 0, none⟩) 1 p fin ts r _ (HI.out.ps.below HAR.out) (RdS.new (heap_alloc_new wr _)) (by decide)).mono ?_
    rintro e w3 ⟨rfl, hb3⟩
    have HI3 := Hi (HI.out.below (HAR.out.trans (hb3.mono HAR.out.size)))
    clear c0 sl hb3
    obtain ⟨v3, hb3, hown3⟩ := HI3.out.sk.is
    obtain ⟨A3, cap3, rfl⟩ := hown3.form
    have c0 := cOb (o := 0) hb3 rfl
    have c1 := cOb (o := 1) hb3 rfl
    have sl := lHp hb3
    have HOW := Hi hown3
    clear hb3 hown3
    cases hs : seesF [[125]] r with
    | false =>
      have HQ := Hi hs
      clear hs
      go_wp2_with fail
      refine (begins_s pb p fin ts r _ HI3.out.ps HI3.out.cap.p0).mono ?_
      rintro e w4 ⟨rfl, hb4⟩
      have HI4 := Hi (HI3.out.below hb4)
      clear c0 c1 sl hb4 HOW
      obtain ⟨v4, hb4, hown4⟩ := HI4.out.sk.is
      have c0 := cOb (o := 0) hb4 rfl
      have sl := lHp hb4
      clear hb4 hown4
      cases hs : beginsS r with
      | false =>
        have HQ2 := Hi hs
        clear hs
        go_wp2_with fail
        refine (fail_any p fin ts r _ HI4.out.ps).mono ?_
        rintro e w5 ⟨rfl, hb5⟩
        have HRR : Hid (startF l = .error (failC r, r)) := Hi (by rw [HB.out, HLP.out, loopF, if_neg (by rw [HQ.out]; decide), if_neg (by rw [HQ2.out]; decide)]; rfl)
        have HER := Hi (((Eff.of_below (p := p) HAL.out).toS sb w.heap.size).trans ((HI4.out.eff.lower (Nat.le_succ _)).trans ((Eff.of_below (p := p) hb5).toS sb w.heap.size)))
        clear hb5
        go_wp2_with fail
        refine ⟨rfl, ?_⟩
        rw [HRR.out]
        exact ⟨rfl, HER.out⟩
      | true =>
        have HQ2 := Hi hs
        clear hs
        go_wp2_with fail
        refine (peek_any p fin ts r _ HI4.out.ps).mono ?_
        rintro e w5 ⟨rfl, hb5⟩
        have HI5 := Hi (HI4.out.below hb5)
        have HT : Hid (posAt fin r = (headT fin r).pos) := Hi (by cases r <;> rfl)
        generalize headT fin r = T at HT ⊢
        clear c0 sl hb5
        by_cases hf : f = 0
        · subst hf
          obtain rfl : j = 200 := by omega
          go_wp2_with fail
          refine (check_yes 2 T _).mono ?_
          rintro e w6 ⟨rfl, hb6⟩
          have HRR : Hid (startF l = .error (2, r)) := Hi (by rw [HB.out, HLP.out, loopF, if_neg (by rw [HQ.out]; decide), if_pos HQ2.out, if_pos rfl]; rfl)
          have HER := Hi (((Eff.of_below (p := p) HAL.out).toS sb w.heap.size).trans ((HI5.out.eff.lower (Nat.le_succ _)).trans ((Eff.of_below (p := p) hb6).toS sb w.heap.size)))
          clear hb6
          go_wp2_with fail
          refine ⟨rfl, ?_⟩
          rw [HRR.out]
          exact ⟨by rw [HT.out]; rfl, HER.out⟩
        · have i1 : ((j : Int) == 200) = false := by simp; omega
          have hlt : st.length < 200 := by have := HSTL.out; omega
          have HFN := Hi hf
          clear hf
          go_wp2_with fail
          refine (check_no 2 T _).mono ?_
          rintro e w6 ⟨rfl, hb6⟩
          have HI6 := Hi (HI5.out.below hb6)
          clear hb6
          go_wp2_with fail
          have hbw6 : w.heap.size + 1 ≤ w6.heap.size := Nat.le_trans HSZ1.out HI6.out.eff.size
          refine (item_s pb sbb mb mp n p sb (w.heap.size + 1) fin ts r st w6 ⟨HI6.out.ps, HI6.out.sk, HI6.out.cap, EffS.refl _ _ _ _⟩ hlt hbw6).mono ?_
          intro e w7 ho
          cases hq : sitemF st r with
          | error x =>
            obtain ⟨c, s⟩ := x
            rw [hq] at ho
            obtain ⟨rfl, h2⟩ := ho
            have HRR : Hid (startF l = .error (c, s)) := Hi (by rw [HB.out, HLP.out, loopF, if_neg (by rw [HQ.out]; decide), if_pos HQ2.out, if_neg HFN.out, hq]; rfl)
            have HER := Hi (((Eff.of_below (p := p) HAL.out).toS sb w.heap.size).trans ((HI6.out.eff.trans h2).lower (Nat.le_succ _)))
            clear h2 hq
            go_wp2_with fail
            refine ⟨rfl, ?_⟩
            rw [HRR.out]
            exact ⟨rfl, HER.out⟩
          | ok x =>
            obtain ⟨st', r'⟩ := x
            rw [hq] at ho
            obtain ⟨rfl, g1, g2, g3⟩ := ho
            have HLP2 : Hid (loopF beginsS sitemF 201 [] r0 = loopF beginsS sitemF f st' r') := Hi (by rw [HLP.out, loopF, if_neg (by rw [HQ.out]; decide), if_pos HQ2.out, if_neg HFN.out, hq]; rfl)
            have HSL : Hid (st'.length ≤ st.length + 1) := Hi (item_len_s hq)
            have HI7 : Hid (ItS false w1 w7 pb sbb mb mp n 4 p sb (w.heap.size + 1) 140 fin [[100, 101, 99, 114, 101, 101], [101, 118, 101, 110, 116], [98, 101, 103, 117, 110], [111, 118, 101, 114]] ts r' st') := Hi ⟨g2, g1, HI6.out.cap.keep g3, HI6.out.eff.trans g3⟩
            clear g1 g2 g3 hq
            go_wp2_with fail
            obtain ⟨f', rfl⟩ : ∃ f', f = f' + 1 := ⟨f - 1, by have := HFN.out; omega⟩
            exact ⟨⟨f', j + 1, st', r', by omega, by go_num, by have := HSL.out; have := HSTL.out; omega, HLP2.out, HI7.out⟩, by simp [intOf]; omega⟩
    | true =>
      have HQ := Hi hs
      have HB2 : Hid (startF l = topF st r) := Hi (by rw [HB.out, HLP.out, loopF, if_pos hs]; rfl)
      clear hs
      by_cases h1 : st.length = 1
      · obtain ⟨x, rfl⟩ := List.length_eq_one_iff.1 h1
        have i1 : ((1 : Nat) : Int) = 1 := rfl
        clear h1
        go_wp2_with fail
        have hmu := must_any [125] p fin ts r w3 HI3.out.ps
        cases hq : mustF [125] r with
        | error x =>
          obtain ⟨c, s⟩ := x
          rw [hq] at hmu
          have HRR : Hid (startF l = .error (c, s)) := Hi (by rw [HB2.out, topF, hq]; rfl)
          refine hmu.mono ?_
          rintro e w4 ⟨rfl, he⟩
          have HER := Hi (((Eff.of_below (p := p) HAL.out).toS sb w.heap.size).trans ((HI3.out.eff.lower (Nat.le_succ _)).trans (he.toS sb w.heap.size)))
          clear hmu hq he
          go_wp2_with fail
          refine ⟨rfl, ?_⟩
          rw [HRR.out]
          exact ⟨rfl, HER.out⟩
        | ok y =>
          obtain ⟨u2, r2⟩ := y
          rw [hq] at hmu
          have HRR : Hid (startF l = .ok (x.1, r2)) := Hi (by rw [HB2.out, topF, hq]; rfl)
          refine hmu.mono ?_
          rintro e w4 ⟨vv, rfl, rfl, hp4, he4⟩
          have HI4 : Hid (ItS false w1 w4 pb sbb mb mp n 4 p sb (w.heap.size + 1) 140 fin [[100, 101, 99, 114, 101, 101], [101, 118, 101, 110, 116], [98, 101, 103, 117, 110], [111, 118, 101, 114]] ts r2 [x]) := Hi ⟨hp4, HI3.out.sk.eff he4, HI3.out.cap.keep (he4.toS _ _), HI3.out.eff.trans (he4.toS _ _)⟩
          clear hmu hq hp4 he4 c0 c1 sl HOW
          obtain ⟨v4, hb4, hown4⟩ := HI4.out.sk.is
          obtain ⟨g, cap4, rfl, hg1, hg2, hg3, hg4, hat⟩ := hown4.at (by simp)
          obtain ⟨cs, hcs, tc, rfl, hrt⟩ := hat 0 x rfl
          obtain ⟨t, d⟩ := x
          obtain ⟨o', nm', cm', m', ks'⟩ := t
          obtain ⟨A', cap', rfl, hk1, hk2⟩ := hrt
          have c1 := cOb (o := 1) hb4 rfl
          have sl := lHp hb4
          have e0 : ∀ (j : Nat) u, ((tcs false o' nm' cm' m' (.slice A' ks'.length cap') ++ [.int .i64 (d : Int)]) : List Value)[j]? = some u → w4.cell? ⟨g, j, none⟩ = some u := fun j u hu => by have := hcs j u hu; rwa [Nat.zero_mul, Nat.zero_add] at this
          have x0 := e0 0 _ rfl
          have x1 := e0 1 _ rfl
          have x2 := e0 2 _ rfl
          have x3 := e0 3 _ rfl
          have hrb4 := (HI4.out.eff.block w.heap.size (by rw [HZ1.out]; omega) (by have := HPN.out; have := HSLT.out; omega) (by have := HSLT.out; omega) (by omega)).trans HRB.out
          have HRB4 := Hi hrb4
          have r0 := cOb (o := 0) hrb4 rfl
          have f0 := fOb (o := 0) hrb4
          have r1 := cOb (o := 1) hrb4 rfl
          have f1 := fOb (o := 1) hrb4
          have r2 := cOb (o := 2) hrb4 rfl
          have f2 := fOb (o := 2) hrb4
          have r3 := cOb (o := 3) hrb4 rfl
          have f3 := fOb (o := 3) hrb4
          have rl := lHp hrb4
          have HRT : Hid (RdTree false (fun b => w.heap.size + 1 ≤ b) w4 (tcs false o' nm' cm' m' (.slice A' ks'.length cap')) (.mk o' nm' cm' m' ks')) := Hi (RdTree.keep (lR _) (fun b hb _ => ⟨hb.1, rfl⟩) (⟨A', cap', rfl, hk1, hk2⟩ : RdTree false (fun b => w.heap.size + 1 ≤ b ∧ b ≠ g) w4 _ (.mk o' nm' cm' m' ks')))
          clear hb4 hown4 hat hcs e0 hrb4 hk1 hk2
          go_wp2_with fail
          have ho : Off w.heap.size w4 (((((w4).setCell ⟨w.heap.size, 0, none⟩ (.int .i64 (o' : Int))).setCell ⟨w.heap.size, 1, none⟩ (vs nm')).setCell ⟨w.heap.size, 2, none⟩ (.int .i64 (m' : Int))).setCell ⟨w.heap.size, 3, none⟩ (.slice A' ks'.length cap')) := ((((Off.refl _ _).set (o := 0) _).set (o := 1) _).set (o := 2) _).set (o := 3) _
          have hrow : (((((w4).setCell ⟨w.heap.size, 0, none⟩ (.int .i64 (o' : Int))).setCell ⟨w.heap.size, 1, none⟩ (vs nm')).setCell ⟨w.heap.size, 2, none⟩ (.int .i64 (m' : Int))).setCell ⟨w.heap.size, 3, none⟩ (.slice A' ks'.length cap')).heap[w.heap.size]? = some (.cells #[.int .i64 (o' : Int), vs nm', .int .i64 (m' : Int), .slice A' ks'.length cap'] 28 (0, 0)) := by
           have q := HRB4.out
           have q := rSc (o := 0) (u := .int .i64 (o' : Int)) q
           have q := rSc (o := 1) (u := vs nm') q
           have q := rSc (o := 2) (u := .int .i64 (m' : Int)) q
           have q := rSc (o := 3) (u := .slice A' ks'.length cap') q
           simpa using q
          generalize (((((w4).setCell ⟨w.heap.size, 0, none⟩ (.int .i64 (o' : Int))).setCell ⟨w.heap.size, 1, none⟩ (vs nm')).setCell ⟨w.heap.size, 2, none⟩ (.int .i64 (m' : Int))).setCell ⟨w.heap.size, 3, none⟩ (.slice A' ks'.length cap')) = w5 at ho hrow ⊢
          have g0 := cOb (o := 0) hrow rfl
          have g1 := cOb (o := 1) hrow rfl
          have g2 := cOb (o := 2) hrow rfl
          have g3 := cOb (o := 3) hrow rfl
          refine bodyPost_ret (v := .agg (tcs false o' nm' cm' m' (.slice A' ks'.length cap')).toArray) (by simp [results, Tryz.results143, go_sem, tcs, g0, g1, g2, g3]) rfl ?_
          have hef : EffS p sb w.heap.size w w5 := ⟨ho.os.trans (HI4.out.eff.os.trans HAL.out.os), ho.tape.trans (HI4.out.eff.tape.trans HAL.out.tape), ho.output.trans (HI4.out.eff.output.trans HAL.out.output), by rw [ho.size]; exact Nat.le_trans HAL.out.size HI4.out.eff.size, fun k k1 k2 k3 k4 => (ho.block k (by omega)).trans ((HI4.out.eff.block k (by rw [HZ1.out]; omega) k2 k3 (by omega)).trans (HAL.out.block k k1))⟩
          rw [HRR.out]
          exact ⟨_, rfl, HRT.out.keep (by rw [ho.size]; exact lR _) (fun b hb _ => ⟨by omega, ho.block b (by omega)⟩), HI4.out.ps.off ho (by have := HPN.out; have := HSLT.out; omega), hef⟩
      · have i1 : ((st.length : Int) != 1) = true := by simp; omega
        have i2 : ((st.length : Int) == 1) = false := by simp; omega
        have HRR : Hid (startF l = .error (failC r, r)) := Hi (by rw [HB2.out, top_of h1]; rfl)
        clear h1
        go_wp2_with fail
        refine (fail_any p fin ts r _ HI3.out.ps).mono ?_
        rintro e w5 ⟨rfl, hb5⟩
        have HER := Hi (((Eff.of_below (p := p) HAL.out).toS sb w.heap.size).trans ((HI3.out.eff.lower (Nat.le_succ _)).trans ((Eff.of_below (p := p) hb5).toS sb w.heap.size)))
        clear hb5
        go_wp2_with fail
        refine ⟨rfl, ?_⟩
        rw [HRR.out]
        exact ⟨rfl, HER.out⟩
end So
end Go.Proofs.YtbicmjmcdnkjhaaGreatDoor
