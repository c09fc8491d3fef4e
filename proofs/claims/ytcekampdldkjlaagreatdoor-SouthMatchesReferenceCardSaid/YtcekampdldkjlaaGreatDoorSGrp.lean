/- group. -/
import Derived.Test.YtcekampdldkjlaaGreatDoorSCombF
import Derived.Test.YtcekampdldkjlaaGreatDoorSCombS
set_option linter.unusedVariables false
set_option linter.unusedSimpArgs false
namespace Go.Proofs.YtcekampdldkjlaaGreatDoor
open Go.RowKit
/- what an item answers -/
def OutI (fm : Bool) (p fin sb base fj : Nat) (ts : List Tok) (w : World) (res : R Stack) (e : Ending) (w' : World) : Prop :=
  match res with
  | .ok (st, r) => e = .returned (.tuple #[]) ∧ SK fm w' sb p base fj st ∧ PS w' p fin ts r ∧ EffS p sb base w w'
  | .error (er, s) => e = stopE er (posAt fin s) ∧ EffS p sb base w w'
theorem combine_out {op k : Nat} {at' : List Tok} {st : Stack} {r : List Tok} : (st.length < k ∧ combineF op k at' st r = .error (5, at')) ∨ ∃ n, st.length = n + k ∧ ((20 < deepK (st.drop n) ∧ combineF op k at' st r = .error (2, at')) ∨ (deepK (st.drop n) ≤ 20 ∧ combineF op k at' st r = .ok (st.take n ++ [(.mk op [] 0 0 ((st.drop n).map (·.1)), deepK (st.drop n))], r))) := by
  unfold combineF
  by_cases h : st.length < k
  · exact .inl ⟨h, by rw [if_pos h]⟩
  · refine .inr ⟨st.length - k, by omega, ?_⟩
    by_cases h2 : 20 < deepK (st.drop (st.length - k))
    · exact .inl ⟨h2, by rw [if_neg h, if_pos h2]⟩
    · exact .inr ⟨by omega, by rw [if_neg h, if_neg h2]⟩
theorem combine_any_f (op k : Nat) (a : Tok) (sb p base fin : Nat) (ts l lt : List Tok) (st : Stack) (w : World) (hp : PS w p fin ts l) (hs : SK true w sb p base 48 st) (hk : 1 ≤ k) (hk2 : k ≤ 10000000) (hbw : base ≤ w.heap.size) :
    Calls Tryz.prog 54 #[.pointer (some ⟨sb, 0, none⟩), .int .i64 op, .int .i64 k, a.agg] w (OutI true p fin sb base 48 ts w (combineF op k (a :: lt) st l)) := by
  rcases combine_out (op := op) (k := k) (at' := a :: lt) (st := st) (r := l) with ⟨h1, h2⟩ | ⟨n, h1, h2⟩
  · rw [h2]
    exact (combine_few_f op k a sb p base 48 fin ts l st w hs h1 hk2).mono fun e w' ⟨x, y⟩ => ⟨x, (Eff.of_below (p := p) y).toS sb base⟩
  · refine (combine_f op k n a sb p base fin ts l st w hp hs h1 hk hbw).mono fun e w' ⟨x, y⟩ => ?_
    rcases h2 with ⟨h2, h3⟩ | ⟨h2, h3⟩
    · rw [h3]; exact y h2
    · rw [h3]; exact x h2
set_option maxRecDepth 20000 in
set_option maxHeartbeats 4000000 in
theorem group_f (op : Nat) (a : Tok) (sb p base fin : Nat) (ts l : List Tok) (st : Stack) (w : World) (hp : PS w p fin ts l) (hprev : ∃ u, ts = u ++ a :: l) (hs : SK true w sb p base 48 st) (hbw : base ≤ w.heap.size) :
    Calls Tryz.prog 55 #[.pointer (some ⟨sb, 0, none⟩), .int .i64 op] w (OutI true p fin sb base 48 ts w (groupF op (a :: l) st l)) := by
  have HS := Lib.hid hs
  have HP := Lib.hid hp
  obtain ⟨v, hb, hown⟩ := hs.is
  obtain ⟨A, cap, rfl⟩ := hown.form
  obtain ⟨B, c, u, hh, hu, hr, hn, h1, h2⟩ := hp.is
  obtain ⟨u0, hu0⟩ := hprev
  have hul : u.length = u0.length + 1 := by
    have h3 := congrArg List.length hu
    have h4 := congrArg List.length hu0
    simp at h3 h4; omega
  rw [hul] at hh
  obtain ⟨b, o, rfl, hbl, t0, t1, t2, t3⟩ := tok_nth hr hu0
  have c0 := cell_of_blk (o := 0) hb rfl
  have sl := lt_of_heap' hb
  have sl1 : sb < w.heap.size + 1 := Nat.lt_succ_of_lt sl
  have p0 := cell_of_blk (o := 0) hh rfl
  have p1 : w.cell? ⟨p, 1, none⟩ = some (.int .i64 ((u0.length : Int) + 1)) := cell_of_blk (o := 1) hh (by simp)
  have pl := lt_of_heap' hh
  have pl1 : p < w.heap.size + 1 := Nat.lt_succ_of_lt pl
  have bl1 : b < w.heap.size + 1 := Nat.lt_succ_of_lt hbl
  have i1 : IntKind.i64.wrap (u0.length : Int) = u0.length := IntWalk.i64_in _ ⟨by omega, by have := hp.few; rw [hu0] at this; simp at this; omega⟩
  have i2 : (u0.length : Int) < ts.length := by rw [hu0]; simp; omega
  have i3 : (0 : Int) ≤ u0.length := by omega
  have hpn : w.heap.size ≠ p := by omega
  have HX1 := Lib.hid (heap_alloc_new w (tokO a))
  have HB1 : Hid (Below w.heap.size w (w.alloc (tokO a)).drew) := Lib.hid (((Below.refl _ _).alloc (Nat.le_refl _) _).drew)
  have HFIT : Hid (∀ t r, l = t :: r → t.n ≤ 10000000) := Lib.hid (fun t r h => (hp.fit t (by rw [hu0, h]; simp)).num)
  have HSB := Lib.hid hb
  clear hp hs hb hown hh hu hr hn h1 h2 hu0
  go_enter Tryz.func55, Tryz.ntmps55
  go_wp2_with fail
  go_region
  have hx1 : (w.alloc (tokO a)).drew.heap[w.heap.size]? = some (tokO a) := HX1.out
  have hsb : (w.alloc (tokO a)).drew.heap[sb]? = some (.cells #[.pointer (some ⟨p, 0, none⟩), .slice A st.length cap, .func (.func 48) #[] #[]] (sE true) (0, 0)) := (HB1.out.block _ sl).trans HSB.out
  change Exit.then _ _ _ _ (w.alloc (tokO a)).drew
  generalize (w.alloc (tokO a)).drew = w1 at hx1 hsb HB1 ⊢
  have HP1 := Lib.hid (HP.out.below HB1.out)
  have HS1 := Lib.hid (HS.out.eff (Eff.of_below HB1.out))
  have HX := Lib.hid hx1
  have HSB1 := Lib.hid hsb
  have y0 := cell_of_blk (o := 0) hsb rfl
  have yl := lt_of_heap' hsb
  clear hx1 hsb c0 p0 p1 t0 t1 t2 t3 i1 i2 i3 sl1 pl1 bl1 HX1
  go_wp2_with fail
  rcases number_cases l with ⟨t, r, rfl, hk, hn⟩ | ⟨hk, hn⟩
  case inr =>
    rw [show groupF op (a :: l) st l = .error (failC l, l) by unfold groupF; rw [hn]; rfl]
    refine (number_no p fin ts l _ HP1.out (hk fin)).mono ?_
    rintro e w2 ⟨rfl, hb2⟩
    have HE2 := Lib.hid (((Eff.of_below (p := p) HB1.out).trans (Eff.of_below hb2)).toS sb base)
    clear hb2 hk hn
    go_wp2_with fail
    exact ⟨rfl, rfl, HE2.out⟩
  case inl =>
    have HG : Hid (groupF op (a :: t :: r) st (t :: r) = if t.n < 2 then .error (5, a :: t :: r) else combineF op t.n (a :: t :: r) st r) := Lib.hid (by unfold groupF; rw [hn]; rfl)
    have hfit := HFIT.out t r rfl
    refine (number_ok p fin ts t r _ HP1.out hk).mono ?_
    rintro e w2 ⟨rfl, hp2, he2⟩
    have HP2 := Lib.hid hp2
    have HE2 : Hid (Eff p w w2) := Lib.hid ((Eff.of_below HB1.out).trans he2)
    have HS2 := Lib.hid (HS1.out.eff he2)
    have hx2 : w2.heap[w.heap.size]? = some (tokO a) := (he2.block _ (lt_of_heap' HX.out) hpn).trans HX.out
    have HX2 := Lib.hid hx2
    have t0 := cell_of_blk (o := 0) hx2 rfl
    have t1 := cell_of_blk (o := 1) hx2 rfl
    have t2 := cell_of_blk (o := 2) hx2 rfl
    have t3 := cell_of_blk (o := 3) hx2 rfl
    have tl := lt_of_heap' hx2
    simp only [Tok.agg]
    clear hp2 he2 hx2 hk hn y0 yl
    by_cases hk2 : t.n < 2
    · have j1 : (t.n : Int) < 2 := by omega
      have HGG : Hid (groupF op (a :: t :: r) st (t :: r) = .error (5, a :: t :: r)) := Lib.hid (by rw [HG.out, if_pos hk2])
      clear hk2
      go_wp2_with fail
      refine (check_yes 5 a _).mono ?_
      rintro e w3 ⟨rfl, hb3⟩
      have HE3 := Lib.hid ((HE2.out.trans (Eff.of_below hb3)).toS sb base)
      clear hb3
      go_wp2_with fail
      refine ⟨rfl, ?_⟩
      rw [HGG.out]
      exact ⟨rfl, HE3.out⟩
    · have j1 : ¬ (t.n : Int) < 2 := by omega
      have HGG : Hid (groupF op (a :: t :: r) st (t :: r) = combineF op t.n (a :: t :: r) st r) := Lib.hid (by rw [HG.out, if_neg hk2])
      have HK2 := Lib.hid hk2
      clear hk2
      go_wp2_with fail
      refine (check_no 5 a _).mono ?_
      rintro e w3 ⟨rfl, hb3⟩
      have HE3 := Lib.hid (HE2.out.trans (Eff.of_below hb3))
      have HP3 := Lib.hid (HP2.out.below hb3)
      have HS3 := Lib.hid (HS2.out.eff (Eff.of_below hb3))
      have hx3 := (hb3.block _ tl).trans HX2.out
      have hbw3 : base ≤ w3.heap.size := Nat.le_trans hbw HE3.out.size
      clear hb3 t0 t1 t2 t3 tl
      have t0 := cell_of_blk (o := 0) hx3 rfl
      have t1 := cell_of_blk (o := 1) hx3 rfl
      have t2 := cell_of_blk (o := 2) hx3 rfl
      have t3 := cell_of_blk (o := 3) hx3 rfl
      have tl := lt_of_heap' hx3
      clear hx3
      go_wp2_with fail
      have hk2 := HK2.out
      refine (combine_any_f op t.n a sb p base fin ts r (t :: r) st w3 HP3.out HS3.out (by omega) hfit hbw3).mono ?_
      intro e w4 ho
      cases hq : combineF op t.n (a :: t :: r) st r with
      | error x =>
        obtain ⟨c, s⟩ := x
        rw [hq] at ho
        obtain ⟨rfl, h2⟩ := ho
        have H2 := Lib.hid ((HE3.out.toS sb base).trans h2)
        have HQ := Lib.hid hq
        clear h2 hq
        go_wp2_with fail
        refine ⟨rfl, ?_⟩
        rw [HGG.out, HQ.out]
        exact ⟨rfl, H2.out⟩
      | ok x =>
        obtain ⟨st', r'⟩ := x
        rw [hq] at ho
        obtain ⟨rfl, g1, g2, g3⟩ := ho
        have G1 := Lib.hid g1
        have G2 := Lib.hid g2
        have G3 := Lib.hid ((HE3.out.toS sb base).trans g3)
        have HQ := Lib.hid hq
        clear g1 g2 g3 hq
        go_wp2_with fail
        go_end0
        rw [HGG.out, HQ.out]
        exact ⟨rfl, G1.out, G2.out, G3.out⟩
theorem combine_any_s (op k : Nat) (a : Tok) (sb p base fin : Nat) (ts l lt : List Tok) (st : Stack) (w : World) (hp : PS w p fin ts l) (hs : SK false w sb p base 59 st) (hk : 1 ≤ k) (hk2 : k ≤ 10000000) (hbw : base ≤ w.heap.size) :
    Calls Tryz.prog 78 #[.pointer (some ⟨sb, 0, none⟩), .int .i64 op, .int .i64 k, a.agg] w (OutI false p fin sb base 59 ts w (combineF op k (a :: lt) st l)) := by
  rcases combine_out (op := op) (k := k) (at' := a :: lt) (st := st) (r := l) with ⟨h1, h2⟩ | ⟨n, h1, h2⟩
  · rw [h2]
    exact (combine_few_s op k a sb p base 59 fin ts l st w hs h1 hk2).mono fun e w' ⟨x, y⟩ => ⟨x, (Eff.of_below (p := p) y).toS sb base⟩
  · refine (combine_s op k n a sb p base fin ts l st w hp hs h1 hk hbw).mono fun e w' ⟨x, y⟩ => ?_
    rcases h2 with ⟨h2, h3⟩ | ⟨h2, h3⟩
    · rw [h3]; exact y h2
    · rw [h3]; exact x h2
set_option maxRecDepth 20000 in
set_option maxHeartbeats 4000000 in
theorem group_s (op : Nat) (a : Tok) (sb p base fin : Nat) (ts l : List Tok) (st : Stack) (w : World) (hp : PS w p fin ts l) (hprev : ∃ u, ts = u ++ a :: l) (hs : SK false w sb p base 59 st) (hbw : base ≤ w.heap.size) :
    Calls Tryz.prog 65 #[.pointer (some ⟨sb, 0, none⟩), .int .i64 op] w (OutI false p fin sb base 59 ts w (groupF op (a :: l) st l)) := by
  have HS := Lib.hid hs
  have HP := Lib.hid hp
  obtain ⟨v, hb, hown⟩ := hs.is
  obtain ⟨A, cap, rfl⟩ := hown.form
  obtain ⟨B, c, u, hh, hu, hr, hn, h1, h2⟩ := hp.is
  obtain ⟨u0, hu0⟩ := hprev
  have hul : u.length = u0.length + 1 := by
    have h3 := congrArg List.length hu
    have h4 := congrArg List.length hu0
    simp at h3 h4; omega
  rw [hul] at hh
  obtain ⟨b, o, rfl, hbl, t0, t1, t2, t3⟩ := tok_nth hr hu0
  have c0 := cell_of_blk (o := 0) hb rfl
  have sl := lt_of_heap' hb
  have sl1 : sb < w.heap.size + 1 := Nat.lt_succ_of_lt sl
  have p0 := cell_of_blk (o := 0) hh rfl
  have p1 : w.cell? ⟨p, 1, none⟩ = some (.int .i64 ((u0.length : Int) + 1)) := cell_of_blk (o := 1) hh (by simp)
  have pl := lt_of_heap' hh
  have pl1 : p < w.heap.size + 1 := Nat.lt_succ_of_lt pl
  have bl1 : b < w.heap.size + 1 := Nat.lt_succ_of_lt hbl
  have i1 : IntKind.i64.wrap (u0.length : Int) = u0.length := IntWalk.i64_in _ ⟨by omega, by have := hp.few; rw [hu0] at this; simp at this; omega⟩
  have i2 : (u0.length : Int) < ts.length := by rw [hu0]; simp; omega
  have i3 : (0 : Int) ≤ u0.length := by omega
  have hpn : w.heap.size ≠ p := by omega
  have HX1 := Lib.hid (heap_alloc_new w (tokO a))
  have HB1 : Hid (Below w.heap.size w (w.alloc (tokO a)).drew) := Lib.hid (((Below.refl _ _).alloc (Nat.le_refl _) _).drew)
  have HFIT : Hid (∀ t r, l = t :: r → t.n ≤ 10000000) := Lib.hid (fun t r h => (hp.fit t (by rw [hu0, h]; simp)).num)
  have HSB := Lib.hid hb
  clear hp hs hb hown hh hu hr hn h1 h2 hu0
  go_enter Tryz.func65, Tryz.ntmps65
  go_wp2_with fail
  go_region
  have hx1 : (w.alloc (tokO a)).drew.heap[w.heap.size]? = some (tokO a) := HX1.out
  have hsb : (w.alloc (tokO a)).drew.heap[sb]? = some (.cells #[.pointer (some ⟨p, 0, none⟩), .slice A st.length cap, .func (.func 59) #[] #[]] (sE false) (0, 0)) := (HB1.out.block _ sl).trans HSB.out
  change Exit.then _ _ _ _ (w.alloc (tokO a)).drew
  generalize (w.alloc (tokO a)).drew = w1 at hx1 hsb HB1 ⊢
  have HP1 := Lib.hid (HP.out.below HB1.out)
  have HS1 := Lib.hid (HS.out.eff (Eff.of_below HB1.out))
  have HX := Lib.hid hx1
  have HSB1 := Lib.hid hsb
  have y0 := cell_of_blk (o := 0) hsb rfl
  have yl := lt_of_heap' hsb
  clear hx1 hsb c0 p0 p1 t0 t1 t2 t3 i1 i2 i3 sl1 pl1 bl1 HX1
  go_wp2_with fail
  rcases number_cases l with ⟨t, r, rfl, hk, hn⟩ | ⟨hk, hn⟩
  case inr =>
    rw [show groupF op (a :: l) st l = .error (failC l, l) by unfold groupF; rw [hn]; rfl]
    refine (number_no p fin ts l _ HP1.out (hk fin)).mono ?_
    rintro e w2 ⟨rfl, hb2⟩
    have HE2 := Lib.hid (((Eff.of_below (p := p) HB1.out).trans (Eff.of_below hb2)).toS sb base)
    clear hb2 hk hn
    go_wp2_with fail
    exact ⟨rfl, rfl, HE2.out⟩
  case inl =>
    have HG : Hid (groupF op (a :: t :: r) st (t :: r) = if t.n < 2 then .error (5, a :: t :: r) else combineF op t.n (a :: t :: r) st r) := Lib.hid (by unfold groupF; rw [hn]; rfl)
    have hfit := HFIT.out t r rfl
    refine (number_ok p fin ts t r _ HP1.out hk).mono ?_
    rintro e w2 ⟨rfl, hp2, he2⟩
    have HP2 := Lib.hid hp2
    have HE2 : Hid (Eff p w w2) := Lib.hid ((Eff.of_below HB1.out).trans he2)
    have HS2 := Lib.hid (HS1.out.eff he2)
    have hx2 : w2.heap[w.heap.size]? = some (tokO a) := (he2.block _ (lt_of_heap' HX.out) hpn).trans HX.out
    have HX2 := Lib.hid hx2
    have t0 := cell_of_blk (o := 0) hx2 rfl
    have t1 := cell_of_blk (o := 1) hx2 rfl
    have t2 := cell_of_blk (o := 2) hx2 rfl
    have t3 := cell_of_blk (o := 3) hx2 rfl
    have tl := lt_of_heap' hx2
    simp only [Tok.agg]
    clear hp2 he2 hx2 hk hn y0 yl
    by_cases hk2 : t.n < 2
    · have j1 : (t.n : Int) < 2 := by omega
      have HGG : Hid (groupF op (a :: t :: r) st (t :: r) = .error (5, a :: t :: r)) := Lib.hid (by rw [HG.out, if_pos hk2])
      clear hk2
      go_wp2_with fail
      refine (check_yes 5 a _).mono ?_
      rintro e w3 ⟨rfl, hb3⟩
      have HE3 := Lib.hid ((HE2.out.trans (Eff.of_below hb3)).toS sb base)
      clear hb3
      go_wp2_with fail
      refine ⟨rfl, ?_⟩
      rw [HGG.out]
      exact ⟨rfl, HE3.out⟩
    · have j1 : ¬ (t.n : Int) < 2 := by omega
      have HGG : Hid (groupF op (a :: t :: r) st (t :: r) = combineF op t.n (a :: t :: r) st r) := Lib.hid (by rw [HG.out, if_neg hk2])
      have HK2 := Lib.hid hk2
      clear hk2
      go_wp2_with fail
      refine (check_no 5 a _).mono ?_
      rintro e w3 ⟨rfl, hb3⟩
      have HE3 := Lib.hid (HE2.out.trans (Eff.of_below hb3))
      have HP3 := Lib.hid (HP2.out.below hb3)
      have HS3 := Lib.hid (HS2.out.eff (Eff.of_below hb3))
      have hx3 := (hb3.block _ tl).trans HX2.out
      have hbw3 : base ≤ w3.heap.size := Nat.le_trans hbw HE3.out.size
      clear hb3 t0 t1 t2 t3 tl
      have t0 := cell_of_blk (o := 0) hx3 rfl
      have t1 := cell_of_blk (o := 1) hx3 rfl
      have t2 := cell_of_blk (o := 2) hx3 rfl
      have t3 := cell_of_blk (o := 3) hx3 rfl
      have tl := lt_of_heap' hx3
      clear hx3
      go_wp2_with fail
      have hk2 := HK2.out
      refine (combine_any_s op t.n a sb p base fin ts r (t :: r) st w3 HP3.out HS3.out (by omega) hfit hbw3).mono ?_
      intro e w4 ho
      cases hq : combineF op t.n (a :: t :: r) st r with
      | error x =>
        obtain ⟨c, s⟩ := x
        rw [hq] at ho
        obtain ⟨rfl, h2⟩ := ho
        have H2 := Lib.hid ((HE3.out.toS sb base).trans h2)
        have HQ := Lib.hid hq
        clear h2 hq
        go_wp2_with fail
        refine ⟨rfl, ?_⟩
        rw [HGG.out, HQ.out]
        exact ⟨rfl, H2.out⟩
      | ok x =>
        obtain ⟨st', r'⟩ := x
        rw [hq] at ho
        obtain ⟨rfl, g1, g2, g3⟩ := ho
        have G1 := Lib.hid g1
        have G2 := Lib.hid g2
        have G3 := Lib.hid ((HE3.out.toS sb base).trans g3)
        have HQ := Lib.hid hq
        clear g1 g2 g3 hq
        go_wp2_with fail
        go_end0
        rw [HGG.out, HQ.out]
        exact ⟨rfl, G1.out, G2.out, G3.out⟩
end Go.Proofs.YtcekampdldkjlaaGreatDoor
