/- The closures that say whether an item begins. An item. -/
import Derived.Test.YtbicmjmcdnkjhaaGreatDoorJSS1
import Derived.Test.YtbicmjmcdnkjhaaGreatDoorJSS38
import Derived.Test.YtbicmjmcdnkjhaaGreatDoorJSS22
import Derived.Deep.RegionWith
set_option linter.unusedVariables false
set_option linter.unusedSimpArgs false
set_option maxRecDepth 20000
set_option maxHeartbeats 1600000
namespace Go.Proofs.YtbicmjmcdnkjhaaGreatDoor
namespace So
open Go.RowKit
/- what the closures have captured -/
structure Cap (w : World) (pb sbb mb mp n mbase p sb base : Nat) (ws : List (List UInt8)) : Prop where
 p0 : w.cell? ⟨pb, 0, none⟩ = some (.pointer (some ⟨p, 0, none⟩))
 s0 : w.cell? ⟨sbb, 0, none⟩ = some (.pointer (some ⟨sb, 0, none⟩))
 m0 : w.cell? ⟨mb, 0, none⟩ = some (.map (some mp))
 mm : MapW w mp n mbase ws
 lt : pb < base ∧ sbb < base ∧ mb < base ∧ mp < base
 np : pb ≠ p ∧ sbb ≠ p ∧ mb ≠ p ∧ mp ≠ p
 ns : pb ≠ sb ∧ sbb ≠ sb ∧ mb ≠ sb ∧ mp ≠ sb
theorem Cap.keep {w w' : World} {pb sbb mb mp n mbase p sb base : Nat} {ws : List (List UInt8)} (h : Cap w pb sbb mb mp n mbase p sb base ws) (he : EffS p sb base w w') : Cap w' pb sbb mb mp n mbase p sb base ws :=
 ⟨(cOh (he.block pb (World.block_lt_of_cell? _ _ h.p0) h.np.1 h.ns.1 h.lt.1) _).trans h.p0, (cOh (he.block sbb (World.block_lt_of_cell? _ _ h.s0) h.np.2.1 h.ns.2.1 h.lt.2.1) _).trans h.s0,
   (cOh (he.block mb (World.block_lt_of_cell? _ _ h.m0) h.np.2.2.1 h.ns.2.2.1 h.lt.2.2.1) _).trans h.m0, h.mm.of_heap (he.block mp h.mm.lt h.np.2.2.2 h.ns.2.2.2 h.lt.2.2.2), h.lt, h.np, h.ns⟩
theorem Cap.below {w w' : World} {pb sbb mb mp n mbase p sb base : Nat} {ws : List (List UInt8)} (h : Cap w pb sbb mb mp n mbase p sb base ws) (hb : Below w.heap.size w w') : Cap w' pb sbb mb mp n mbase p sb base ws :=
 h.keep ((Eff.of_below (p := p) hb).toS sb base)
theorem begins_f (pb p fin : Nat) (ts l : List Tok) (w : World) (hp : PS w p fin ts l) (hc : w.cell? ⟨pb, 0, none⟩ = some (.pointer (some ⟨p, 0, none⟩))) :
 Calls Tryz.prog 131 #[.pointer (some ⟨pb, 0, none⟩)] w fun e w' => e = .returned (.bool (beginsF l)) ∧ Below w.heap.size w w' := by
 have HP := Hi hp
 have hl := World.block_lt_of_cell? _ _ hc
 clear hp
 go_enter Tryz.func131, Tryz.ntmps131
 go_wp2_with fail
 refine (isName_any p fin ts l _ HP.out).mono ?_
 rintro e w1 ⟨rfl, hb1⟩
 have HB1 := Hi hb1
 have HP1 := Hi (HP.out.below hb1)
 have c1 := (hb1.cell (p := ⟨pb, 0, none⟩) hl).trans hc
 have hl1 : pb < w1.heap.size := Nat.lt_of_lt_of_le hl hb1.size
 cases hn : isNameF l with
 | true =>
   have HE : Hid (beginsF l = true) := Hi (by unfold beginsF; rw [hn]; rfl)
   clear hn hb1
   go_wp2_with fail
   go_ret
   exact ⟨by rw [HE.out]; rfl, HB1.out⟩
 | false =>
   have HE : Hid (beginsF l = seesF [[121, 101, 115], [110, 111], [110, 101, 103, 97, 116, 101, 100], [97, 108, 108], [97, 110, 121]] l) := Hi (by unfold beginsF; rw [hn]; rfl)
   clear hn hb1
   go_wp2_with fail
   have hal : Below w1.heap.size w1 (w1.alloc (.cells #[vs [121, 101, 115], vs [110, 111], vs [110, 101, 103, 97, 116, 101, 100], vs [97, 108, 108], vs [97, 110, 121]] 9 (0, 0))) := (Below.refl _ _).alloc (lR _) _
   refine (sees_any [[121, 101, 115], [110, 111], [110, 101, 103, 97, 116, 101, 100], [97, 108, 108], [97, 110, 121]] (some ⟨w1.heap.size, 0, none⟩) 5 p fin ts l _ (HP1.out.below hal) (RdS.new (heap_alloc_new w1 _)) (by decide)).mono ?_
   rintro e w2 ⟨rfl, hb2⟩
   have HB2 := Hi (HB1.out.trans ((hal.trans (hb2.mono hal.size)).mono HB1.out.size))
   generalize seesF [[121, 101, 115], [110, 111], [110, 101, 103, 97, 116, 101, 100], [97, 108, 108], [97, 110, 121]] l = S at HE ⊢
   clear hb2 hal
   go_wp2_with fail
   go_ret
   exact ⟨by rw [HE.out]; rfl, HB2.out⟩
theorem head_kindB (fin : Nat) (l : List Tok) : (l.head?.any fun t => t.kind == 2) = ((headT fin l).kind == 2) := by
 cases l with
 | nil => rfl
 | cons t r => rfl
theorem begins_s (pb p fin : Nat) (ts l : List Tok) (w : World) (hp : PS w p fin ts l) (hc : w.cell? ⟨pb, 0, none⟩ = some (.pointer (some ⟨p, 0, none⟩))) :
 Calls Tryz.prog 141 #[.pointer (some ⟨pb, 0, none⟩)] w fun e w' => e = .returned (.bool (beginsS l)) ∧ Below w.heap.size w w' := by
 have HP := Hi hp
 have hl := World.block_lt_of_cell? _ _ hc
 clear hp
 go_enter Tryz.func141, Tryz.ntmps141
 go_wp2_with fail
 refine (isName_any p fin ts l _ HP.out).mono ?_
 rintro e w1 ⟨rfl, hb1⟩
 have HB1 := Hi hb1
 have HP1 := Hi (HP.out.below hb1)
 have c1 := (hb1.cell (p := ⟨pb, 0, none⟩) hl).trans hc
 have hl1 : pb < w1.heap.size := Nat.lt_of_lt_of_le hl hb1.size
 cases hn : isNameF l with
 | true =>
   have HE : Hid (beginsS l = true) := Hi (by unfold beginsS; rw [hn]; rfl)
   clear hn hb1
   go_wp2_with fail
   go_ret
   exact ⟨by rw [HE.out]; rfl, HB1.out⟩
 | false =>
   have HN := Hi hn
   clear hn hb1
   go_wp2_with fail
   have hal : Below w1.heap.size w1 (w1.alloc (.cells #[vs [97, 108, 119, 97, 121, 115], vs [110, 101, 118, 101, 114], vs [97, 108, 108], vs [97, 110, 121]] 9 (0, 0))) := (Below.refl _ _).alloc (lR _) _
   refine (sees_any [[97, 108, 119, 97, 121, 115], [110, 101, 118, 101, 114], [97, 108, 108], [97, 110, 121]] (some ⟨w1.heap.size, 0, none⟩) 4 p fin ts l _ (HP1.out.below hal) (RdS.new (heap_alloc_new w1 _)) (by decide)).mono ?_
   rintro e w2 ⟨rfl, hb2⟩
   have hb12 := hal.trans (hb2.mono hal.size)
   have HB2 := Hi (HB1.out.trans (hb12.mono HB1.out.size))
   have HP2 := Hi (HP1.out.below hb12)
   have c2 := (hb12.cell (p := ⟨pb, 0, none⟩) hl1).trans c1
   have hl2 : pb < w2.heap.size := Nat.lt_of_lt_of_le hl1 hb12.size
   clear hb2 hal hb12
   cases hs : seesF [[97, 108, 119, 97, 121, 115], [110, 101, 118, 101, 114], [97, 108, 108], [97, 110, 121]] l with
   | true =>
     have HE : Hid (beginsS l = true) := Hi (by unfold beginsS; rw [HN.out, hs]; rfl)
     clear hs
     go_wp2_with fail
     go_ret
     exact ⟨by rw [HE.out]; rfl, HB2.out⟩
   | false =>
     have HE : Hid (beginsS l = ((headT fin l).kind == 2)) := Hi (by unfold beginsS; rw [HN.out, hs, head_kindB fin]; rfl)
     clear hs
     go_wp2_with fail
     refine (peek_any p fin ts l _ HP2.out).mono ?_
     rintro e w3 ⟨rfl, hb3⟩
     generalize headT fin l = T at HE ⊢
     have HB3 := Hi (HB2.out.trans (hb3.mono HB2.out.size))
     simp only [Tok.agg]
     clear hb3
     by_cases hk : T.kind = 2
     · have i1 : ((T.kind : Int) == 2) = true := by simp; omega
       have HE2 : Hid (beginsS l = true) := Hi (by rw [HE.out, hk]; rfl)
       clear hk
       go_wp2_with fail
       go_ret
       exact ⟨by rw [HE2.out]; rfl, HB3.out⟩
     · have i1 : ((T.kind : Int) == 2) = false := by simp; omega
       have HE2 : Hid (beginsS l = false) := Hi (by rw [HE.out]; simp [hk])
       clear hk
       go_wp2_with fail
       go_ret
       exact ⟨by rw [HE2.out]; rfl, HB3.out⟩
end So
end Go.Proofs.YtbicmjmcdnkjhaaGreatDoor
set_option maxRecDepth 20000
set_option maxHeartbeats 8000000
namespace Go.Proofs.YtbicmjmcdnkjhaaGreatDoor
namespace So
open Go.RowKit
/- what the walk of an item holds -/
structure ItS (fm : Bool) (w w' : World) (pb sbb mb mp n mbase p sb base fj fin : Nat) (ws : List (List UInt8)) (ts l : List Tok) (st : Stack) : Prop where
 ps : PS w' p fin ts l
 sk : SK fm w' sb p base fj st
 cap : Cap w' pb sbb mb mp n mbase p sb base ws
 eff : EffS p sb base w w'
theorem ItS.below {fm : Bool} {w w1 w2 : World} {pb sbb mb mp n mbase p sb base fj fin : Nat} {ws : List (List UInt8)} {ts l : List Tok} {st : Stack} (h : ItS fm w w1 pb sbb mb mp n mbase p sb base fj fin ws ts l st) (hb : Below w1.heap.size w1 w2) : ItS fm w w2 pb sbb mb mp n mbase p sb base fj fin ws ts l st :=
 ⟨h.ps.below hb, h.sk.eff (Eff.of_below hb), h.cap.below hb, h.eff.trans ((Eff.of_below hb).toS sb base)⟩
theorem ItS.step {fm : Bool} {w w1 w2 : World} {pb sbb mb mp n mbase p sb base fj fin : Nat} {ws : List (List UInt8)} {ts l r : List Tok} {st : Stack} (h : ItS fm w w1 pb sbb mb mp n mbase p sb base fj fin ws ts l st) (hp : PS w2 p fin ts r) (he : Eff p w1 w2) : ItS fm w w2 pb sbb mb mp n mbase p sb base fj fin ws ts r st :=
 ⟨hp, h.sk.eff he, h.cap.keep (he.toS sb base), h.eff.trans (he.toS sb base)⟩
theorem ItS.cells {fm : Bool} {w w' : World} {pb sbb mb mp n mbase p sb base fj fin : Nat} {ws : List (List UInt8)} {ts l : List Tok} {st : Stack} (h : ItS fm w w' pb sbb mb mp n mbase p sb base fj fin ws ts l st) :
 w'.cell? ⟨pb, 0, none⟩ = some (.pointer (some ⟨p, 0, none⟩)) ∧ w'.cell? ⟨sbb, 0, none⟩ = some (.pointer (some ⟨sb, 0, none⟩)) ∧ w'.cell? ⟨mb, 0, none⟩ = some (.map (some mp)) ∧ pb < w'.heap.size ∧ sbb < w'.heap.size ∧ mb < w'.heap.size :=
 ⟨h.cap.p0, h.cap.s0, h.cap.m0, World.block_lt_of_cell? _ _ h.cap.p0, World.block_lt_of_cell? _ _ h.cap.s0, World.block_lt_of_cell? _ _ h.cap.m0⟩
theorem ItS.push {fm : Bool} {w w1 w2 : World} {pb sbb mb mp n mbase p sb base fj fin : Nat} {ws : List (List UInt8)} {ts l : List Tok} {st st' : Stack} (h : ItS fm w w1 pb sbb mb mp n mbase p sb base fj fin ws ts l st) (h1 : SK fm w2 sb p base fj st') (h2 : PS w2 p fin ts l) (h3 : EffS p sb base w1 w2) :
 OutI fm p fin sb base fj ts w (.ok (st', l)) (.returned (.tuple #[])) w2 := ⟨rfl, h1, h2, h.eff.trans h3⟩
theorem OutI.trans {fm : Bool} {w w1 w2 : World} {pb sbb mb mp n mbase p sb base fj fin : Nat} {ws : List (List UInt8)} {ts l : List Tok} {st : Stack} {res : R Stack} {e : Ending} (h : ItS fm w w1 pb sbb mb mp n mbase p sb base fj fin ws ts l st) (ho : OutI fm p fin sb base fj ts w1 res e w2) : OutI fm p fin sb base fj ts w res e w2 := by
 unfold OutI at *
 cases res with
 | error x => exact ⟨ho.1, h.eff.trans ho.2⟩
 | ok x => exact ⟨ho.1, ho.2.1, ho.2.2.1, h.eff.trans ho.2.2.2⟩
theorem ItS.prev {fm : Bool} {w w' : World} {pb sbb mb mp n mbase p sb base fj fin : Nat} {ws : List (List UInt8)} {ts l : List Tok} {st : Stack} (h : ItS fm w w' pb sbb mb mp n mbase p sb base fj fin ws ts l st) : ∃ u, ts = u ++ l := by
 obtain ⟨A, c, u, hh, hu, -⟩ := h.ps.is
 exact ⟨u, hu⟩
theorem isF_yes {α : Type} {w : List UInt8} {l : List Tok} {y n : List Tok → R α} (h : seesF [w] l = true) : isF w l y n = y l.tail := by unfold isF; rw [if_pos h]
theorem isF_no {α : Type} {w : List UInt8} {l : List Tok} {y n : List Tok → R α} (h : seesF [w] l = false) : isF w l y n = n l := by unfold isF; rw [if_neg (by rw [h]; decide)]
theorem item_f (pb sbb mb mp n p sb base fin : Nat) (ts l : List Tok) (st : Stack) (w : World) (hi : ItS true w w pb sbb mb mp n 1 p sb base 130 fin [[101, 113, 117, 97, 108], [117, 110, 108, 105, 107, 101], [98, 101, 108, 111, 119], [109, 111, 115, 116], [97, 98, 111, 118, 101], [108, 101, 97, 115, 116]] ts l st) (hf : st.length < 200) (hbw : base ≤ w.heap.size) :
 Calls Tryz.prog 134 #[.pointer (some ⟨pb, 0, none⟩), .pointer (some ⟨sbb, 0, none⟩), .pointer (some ⟨mb, 0, none⟩)] w (OutI true p fin sb base 130 ts w (itemF st l)) := by
 have HI0 := Hi hi
 have c := hi.cells
 obtain ⟨cp, cs, cm, lp, ls, lm⟩ := c
 clear hi
 go_enter Tryz.func134, Tryz.ntmps134
 go_wp2_with fail
 cases hs : seesF [[121, 101, 115]] l with
 | true =>
   have HQ := Hi hs
   clear hs
   have HR : Hid (itemF st l = .ok (st ++ [(.mk 1 [] 0 0 [], 1)], l.tail)) := Hi (by unfold itemF; rw [isF_yes HQ.out]; rfl)
   refine (is_yes [121, 101, 115] p fin ts l _ HI0.out.ps HQ.out).mono ?_
   rintro e wy ⟨rfl, hp, he⟩
   have HY := Hi (HI0.out.step hp he)
   have hbwy : base ≤ wy.heap.size := Nat.le_trans hbw HY.out.eff.size
   clear cp cs cm lp ls lm hp he
   have c := HY.out.cells
   obtain ⟨cp, cs, cm, lp, ls, lm⟩ := c
   go_wp2_with fail
   refine (push_f 1 [] 0 0 sb p base 130 fin ts l.tail st _ HY.out.ps HY.out.sk hf hbwy).mono ?_
   rintro e w3 ⟨rfl, h1, h2, h3⟩
   have HO := Hi (HY.out.push h1 h2 h3)
   clear h1 h2 h3
   go_wp2_with fail
   go_end0
   rw [HR.out]
   exact HO.out
 | false =>
   have HQ0 := Hi hs
   clear hs
   refine (is_no [121, 101, 115] p fin ts l _ HI0.out.ps HQ0.out).mono ?_
   rintro e w1 ⟨rfl, hb⟩
   have HI1 := Hi (HI0.out.below hb)
   clear cp cs cm lp ls lm hb
   have c := HI1.out.cells
   obtain ⟨cp, cs, cm, lp, ls, lm⟩ := c
   go_wp2_with fail
   cases hs : seesF [[110, 111]] l with
   | true =>
     have HQ := Hi hs
     clear hs
     have HR : Hid (itemF st l = .ok (st ++ [(.mk 2 [] 0 0 [], 1)], l.tail)) := Hi (by unfold itemF; rw [isF_no HQ0.out, isF_yes HQ.out]; rfl)
     refine (is_yes [110, 111] p fin ts l _ HI1.out.ps HQ.out).mono ?_
     rintro e wy ⟨rfl, hp, he⟩
     have HY := Hi (HI1.out.step hp he)
     have hbwy : base ≤ wy.heap.size := Nat.le_trans hbw HY.out.eff.size
     clear cp cs cm lp ls lm hp he
     have c := HY.out.cells
     obtain ⟨cp, cs, cm, lp, ls, lm⟩ := c
     go_wp2_with fail
     refine (push_f 2 [] 0 0 sb p base 130 fin ts l.tail st _ HY.out.ps HY.out.sk hf hbwy).mono ?_
     rintro e w3 ⟨rfl, h1, h2, h3⟩
     have HO := Hi (HY.out.push h1 h2 h3)
     clear h1 h2 h3
     go_wp2_with fail
     go_end0
     rw [HR.out]
     exact HO.out
   | false =>
     have HQ1 := Hi hs
     clear hs
     refine (is_no [110, 111] p fin ts l _ HI1.out.ps HQ1.out).mono ?_
     rintro e w2 ⟨rfl, hb⟩
     have HI2 := Hi (HI1.out.below hb)
     clear cp cs cm lp ls lm hb
     have c := HI2.out.cells
     obtain ⟨cp, cs, cm, lp, ls, lm⟩ := c
     go_wp2_with fail
     cases hs : seesF [[110, 101, 103, 97, 116, 101, 100]] l with
     | true =>
       have HQ := Hi hs
       clear hs
       have HR : Hid (itemF st l = combineF 5 1 l st l.tail) := Hi (by unfold itemF; rw [isF_no HQ0.out, isF_no HQ1.out, isF_yes HQ.out])
       refine (is_yes [110, 101, 103, 97, 116, 101, 100] p fin ts l _ HI2.out.ps HQ.out).mono ?_
       rintro e wy ⟨rfl, hp, he⟩
       have HY := Hi (HI2.out.step hp he)
       have hbwy : base ≤ wy.heap.size := Nat.le_trans hbw HY.out.eff.size
       clear cp cs cm lp ls lm hp he
       obtain ⟨t, r, rfl⟩ : ∃ t r, l = t :: r := by obtain ⟨t, r, h, -, -⟩ := sees_cons HQ.out; exact ⟨t, r, h⟩
       obtain ⟨u0, hu0⟩ := HI2.out.prev
       obtain ⟨A, c, u, hh, hu, hr, hn, h1, h2⟩ := HY.out.ps.is
       simp only [List.tail_cons] at hu
       have hul : u.length = u0.length + 1 := by
        have h3 := congrArg List.length hu
        have h4 := congrArg List.length hu0
        simp at h3 h4; omega
       rw [hul] at hh
       obtain ⟨tb, o, rfl, hbl, t0, t1, t2, t3⟩ := tok_nth hr hu0
       have p0 := cOb (o := 0) hh rfl
       have p1 : wy.cell? ⟨p, 1, none⟩ = some (.int .i64 ((u0.length : Int) + 1)) := cOb (o := 1) hh (by simp)
       have pl := lHp hh
       have i1 : IntKind.i64.wrap (u0.length : Int) = u0.length := IntWalk.i64_in _ ⟨by omega, by have := HY.out.ps.few; rw [hu0] at this; simp at this; omega⟩
       have i2 : (u0.length : Int) < ts.length := by rw [hu0]; simp; omega
       have HP2 := Hi (HY.out.ps.below (Below.refl _ _).drew)
       have HK2 := Hi (HY.out.sk.eff (Eff.of_below (p := p) (Below.refl _ _).drew))
       have HD2 := Hi ((Below.refl wy.heap.size wy).drew)
       clear hh hu hr hn h1 h2 hu0
       have c := HY.out.cells
       obtain ⟨cp, cs, cm, lp, ls, lm⟩ := c
       go_wp2_with fail
       go_still_tail 12, (by kernel_rfl)
       change wpList _ _ _ _ _ wy.drew
       have hsz : base ≤ wy.drew.heap.size := hbwy
       generalize wy.drew = wz at HP2 HK2 HD2 hsz ⊢
       have HYZ := Hi (HY.out.below HD2.out)
       clear cp cs cm lp ls lm p0 p1 pl i1 i2 t0 t1 t2 t3
       go_wp2_with fail
       refine (combine_any_f 5 1 t sb p base fin ts r r st _ HP2.out HK2.out (by decide) (by decide) hsz).mono ?_
       intro e w4 ho
       have ho := OutI.trans HYZ.out ho
       cases hq : combineF 5 1 (t :: r) st r with
       | error x =>
         obtain ⟨c, s⟩ := x
         rw [hq] at ho
         have HRR := Hi (HR.out.trans hq)
         obtain ⟨rfl, h2⟩ := ho
         have HO := Hi h2
         clear h2 hq
         go_wp2_with fail
         refine ⟨rfl, ?_⟩
         rw [HRR.out]
         exact ⟨rfl, HO.out⟩
       | ok x =>
         obtain ⟨st', r'⟩ := x
         rw [hq] at ho
         have HRR := Hi (HR.out.trans hq)
         obtain ⟨rfl, h2⟩ := ho
         have HO := Hi h2
         clear h2 hq
         go_wp2_with fail
         go_end0
         rw [HRR.out]
         exact ⟨rfl, HO.out⟩
     | false =>
       have HQ2 := Hi hs
       clear hs
       refine (is_no [110, 101, 103, 97, 116, 101, 100] p fin ts l _ HI2.out.ps HQ2.out).mono ?_
       rintro e w3 ⟨rfl, hb⟩
       have HI3 := Hi (HI2.out.below hb)
       clear cp cs cm lp ls lm hb
       have c := HI3.out.cells
       obtain ⟨cp, cs, cm, lp, ls, lm⟩ := c
       go_wp2_with fail
       cases hs : seesF [[97, 108, 108]] l with
       | true =>
         have HQ := Hi hs
         clear hs
         have HR : Hid (itemF st l = groupF 6 l st l.tail) := Hi (by unfold itemF; rw [isF_no HQ0.out, isF_no HQ1.out, isF_no HQ2.out, isF_yes HQ.out])
         refine (is_yes [97, 108, 108] p fin ts l _ HI3.out.ps HQ.out).mono ?_
         rintro e wy ⟨rfl, hp, he⟩
         have HY := Hi (HI3.out.step hp he)
         have hbwy : base ≤ wy.heap.size := Nat.le_trans hbw HY.out.eff.size
         clear cp cs cm lp ls lm hp he
         obtain ⟨t, r, rfl⟩ : ∃ t r, l = t :: r := by obtain ⟨t, r, h, -, -⟩ := sees_cons HQ.out; exact ⟨t, r, h⟩
         have HPV := Hi HI3.out.prev
         have c := HY.out.cells
         obtain ⟨cp, cs, cm, lp, ls, lm⟩ := c
         go_wp2_with fail
         refine (group_f 6 t sb p base fin ts r st _ HY.out.ps HPV.out HY.out.sk hbwy).mono ?_
         intro e w4 ho
         have ho := OutI.trans HY.out ho
         cases hq : groupF 6 (t :: r) st r with
         | error x =>
           obtain ⟨c, s⟩ := x
           rw [hq] at ho
           have HRR := Hi (HR.out.trans hq)
           obtain ⟨rfl, h2⟩ := ho
           have HO := Hi h2
           clear h2 hq
           go_wp2_with fail
           refine ⟨rfl, ?_⟩
           rw [HRR.out]
           exact ⟨rfl, HO.out⟩
         | ok x =>
           obtain ⟨st', r'⟩ := x
           rw [hq] at ho
           have HRR := Hi (HR.out.trans hq)
           obtain ⟨rfl, h2⟩ := ho
           have HO := Hi h2
           clear h2 hq
           go_wp2_with fail
           go_end0
           rw [HRR.out]
           exact ⟨rfl, HO.out⟩
       | false =>
         have HQ3 := Hi hs
         clear hs
         refine (is_no [97, 108, 108] p fin ts l _ HI3.out.ps HQ3.out).mono ?_
         rintro e w4 ⟨rfl, hb⟩
         have HI4 := Hi (HI3.out.below hb)
         clear cp cs cm lp ls lm hb
         have c := HI4.out.cells
         obtain ⟨cp, cs, cm, lp, ls, lm⟩ := c
         go_wp2_with fail
         cases hs : seesF [[97, 110, 121]] l with
         | true =>
           have HQ := Hi hs
           clear hs
           have HR : Hid (itemF st l = groupF 7 l st l.tail) := Hi (by unfold itemF; rw [isF_no HQ0.out, isF_no HQ1.out, isF_no HQ2.out, isF_no HQ3.out, isF_yes HQ.out])
           refine (is_yes [97, 110, 121] p fin ts l _ HI4.out.ps HQ.out).mono ?_
           rintro e wy ⟨rfl, hp, he⟩
           have HY := Hi (HI4.out.step hp he)
           have hbwy : base ≤ wy.heap.size := Nat.le_trans hbw HY.out.eff.size
           clear cp cs cm lp ls lm hp he
           obtain ⟨t, r, rfl⟩ : ∃ t r, l = t :: r := by obtain ⟨t, r, h, -, -⟩ := sees_cons HQ.out; exact ⟨t, r, h⟩
           have HPV := Hi HI4.out.prev
           have c := HY.out.cells
           obtain ⟨cp, cs, cm, lp, ls, lm⟩ := c
           go_wp2_with fail
           refine (group_f 7 t sb p base fin ts r st _ HY.out.ps HPV.out HY.out.sk hbwy).mono ?_
           intro e w4 ho
           have ho := OutI.trans HY.out ho
           cases hq : groupF 7 (t :: r) st r with
           | error x =>
             obtain ⟨c, s⟩ := x
             rw [hq] at ho
             have HRR := Hi (HR.out.trans hq)
             obtain ⟨rfl, h2⟩ := ho
             have HO := Hi h2
             clear h2 hq
             go_wp2_with fail
             refine ⟨rfl, ?_⟩
             rw [HRR.out]
             exact ⟨rfl, HO.out⟩
           | ok x =>
             obtain ⟨st', r'⟩ := x
             rw [hq] at ho
             have HRR := Hi (HR.out.trans hq)
             obtain ⟨rfl, h2⟩ := ho
             have HO := Hi h2
             clear h2 hq
             go_wp2_with fail
             go_end0
             rw [HRR.out]
             exact ⟨rfl, HO.out⟩
         | false =>
           have HQ4 := Hi hs
           clear hs
           refine (is_no [97, 110, 121] p fin ts l _ HI4.out.ps HQ4.out).mono ?_
           rintro e w5 ⟨rfl, hb⟩
           have HI5 := Hi (HI4.out.below hb)
           clear cp cs cm lp ls lm hb
           have c := HI5.out.cells
           obtain ⟨cp, cs, cm, lp, ls, lm⟩ := c
           have HB : Hid (itemF st l = bindR (nameF l) fun s r => isF [100, 101, 102, 105, 110, 101, 100] r (fun r => pushF st (.mk 4 s 0 0 []) r) (testF st s)) := Hi (by unfold itemF; rw [isF_no HQ0.out, isF_no HQ1.out, isF_no HQ2.out, isF_no HQ3.out, isF_no HQ4.out])
           have HIN := HI5
           go_wp2_with fail
           rcases name_cases l with ⟨t, r, rfl, hn1, hn2⟩ | ⟨hn1, hn2⟩
           case inr =>
            have HRR : Hid (itemF st l = .error (failC l, l)) := Hi (by rw [HB.out, hn2]; rfl)
            refine (name_no p fin ts l _ HIN.out.ps hn1).mono ?_
            rintro e w7 ⟨rfl, hb7⟩
            have HER := Hi (HIN.out.eff.trans ((Eff.of_below (p := p) hb7).toS sb base))
            clear hb7
            go_wp2_with fail
            refine ⟨rfl, ?_⟩
            rw [HRR.out]
            exact ⟨rfl, HER.out⟩
           case inl =>
            obtain ⟨l0, hl0⟩ : ∃ l0, l0 = t :: r := ⟨_, rfl⟩
            rw [← hl0] at HB
            have HL0 := Hi hl0
            refine (name_ok p fin ts t r _ HIN.out.ps hn1).mono ?_
            rintro e w7 ⟨rfl, hp7, he7⟩
            have HI7 := Hi (HIN.out.step hp7 he7)
            have HN2 : Hid (nameF l0 = .ok (t.text, r)) := Hi (by rw [hl0]; exact hn2)
            simp only [Tok.agg]
            clear cp cs cm lp ls lm hp7 he7 hn1 hn2 hl0
            have c := HI7.out.cells
            obtain ⟨cp, cs, cm, lp, ls, lm⟩ := c
            go_wp2_with fail
            cases hs : seesF [[100, 101, 102, 105, 110, 101, 100]] r with
            | true =>
              have HQ := Hi hs
              have HRR : Hid (itemF st l0 = .ok (st ++ [(.mk 4 t.text 0 0 [], 1)], r.tail)) := Hi (by rw [HB.out, HN2.out]; simp only [bindR]; rw [isF_yes hs]; rfl)
              clear hs
              refine (is_yes [100, 101, 102, 105, 110, 101, 100] p fin ts r _ HI7.out.ps HQ.out).mono ?_
              rintro e wy ⟨rfl, hp, he⟩
              have HY := Hi (HI7.out.step hp he)
              have hbwy : base ≤ wy.heap.size := Nat.le_trans hbw HY.out.eff.size
              clear cp cs cm lp ls lm hp he
              have c := HY.out.cells
              obtain ⟨cp, cs, cm, lp, ls, lm⟩ := c
              go_wp2_with fail
              refine (push_f 4 t.text 0 0 sb p base 130 fin ts r.tail st _ HY.out.ps HY.out.sk hf hbwy).mono ?_
              rintro e w3 ⟨rfl, h1, h2, h3⟩
              have HO := Hi (HY.out.push h1 h2 h3)
              clear h1 h2 h3
              go_wp2_with fail
              go_end0
              rw [← HL0.out, HRR.out]
              exact HO.out
            | false =>
              have HQ := Hi hs
              have HB2 : Hid (itemF st l0 = testF st t.text r) := Hi (by rw [HB.out, HN2.out]; simp only [bindR]; rw [isF_no hs])
              clear hs
              refine (is_no [100, 101, 102, 105, 110, 101, 100] p fin ts r _ HI7.out.ps HQ.out).mono ?_
              rintro e w8 ⟨rfl, hb⟩
              have HI8 := Hi (HI7.out.below hb)
              clear cp cs cm lp ls lm hb
              have c := HI8.out.cells
              obtain ⟨cp, cs, cm, lp, ls, lm⟩ := c
              go_wp2_with fail
              have hlim := limited_any 1000000 p fin ts r _ HI8.out.ps
              cases hq : limitF 1000000 r with
              | error x =>
                obtain ⟨c, s⟩ := x
                rw [hq] at hlim
                have HRR : Hid (itemF st l0 = .error (c, s)) := Hi (by rw [HB2.out]; unfold testF; rw [hq]; rfl)
                refine hlim.mono ?_
                rintro e w9 ⟨rfl, he9⟩
                have HER := Hi (HI8.out.eff.trans (he9.toS sb base))
                clear hlim hq he9
                go_wp2_with fail
                refine ⟨rfl, ?_⟩
                rw [← HL0.out, HRR.out]
                exact ⟨rfl, HER.out⟩
              | ok x =>
                obtain ⟨v, r2⟩ := x
                rw [hq] at hlim
                have HB3 : Hid (itemF st l0 = bindR (chooseF [[101, 113, 117, 97, 108], [117, 110, 108, 105, 107, 101], [98, 101, 108, 111, 119], [109, 111, 115, 116], [97, 98, 111, 118, 101], [108, 101, 97, 115, 116]] r2) fun c r3 => pushF st (.mk 3 t.text (1 + c) v []) r3) := Hi (by rw [HB2.out]; unfold testF; rw [hq]; rfl)
                refine hlim.mono ?_
                rintro e w9 ⟨vv, rfl, rfl, hp9, he9⟩
                have HI9 := Hi (HI8.out.step hp9 he9)
                clear cp cs cm lp ls lm hlim hq hp9 he9
                have c := HI9.out.cells
                obtain ⟨cp, cs, cm, lp, ls, lm⟩ := c
                have HPD := Hi (HI9.out.below (Below.refl _ _).drew)
                have hch := choose_any [[101, 113, 117, 97, 108], [117, 110, 108, 105, 107, 101], [98, 101, 108, 111, 119], [109, 111, 115, 116], [97, 98, 111, 118, 101], [108, 101, 97, 115, 116]] (by decide) 1 mp n p fin ts r2 w9.drew HPD.out.ps HPD.out.cap.mm
                cases hq : chooseF [[101, 113, 117, 97, 108], [117, 110, 108, 105, 107, 101], [98, 101, 108, 111, 119], [109, 111, 115, 116], [97, 98, 111, 118, 101], [108, 101, 97, 115, 116]] r2 with
                | error x =>
                  obtain ⟨c, s⟩ := x
                  rw [hq] at hch
                  have HCH := Hi hch
                  have HRR : Hid (itemF st l0 = .error (c, s)) := Hi (by rw [HB3.out, hq]; rfl)
                  clear hch hq
                  go_wp2_with fail
                  refine wp_region_any (by kernel_rfl) ?_
                  change wpAny _ _ _ _ _ _ _ (World.drew _)
                  refine wpAny_take (i := 1) (v := ?_) rfl (by kernel_rfl) (by kernel_rfl) (by kernel_rfl) (fun _ _ _ h => h) (Or.inl ⟨by rfl, ?hy1⟩) ?rest1
                  case hy1 =>
                   intro w
                   first | (go_simp; done) | (go_simp; rfl) | rfl
                  refine wpAny_take (i := 2) (v := ?_) rfl (by kernel_rfl) (by kernel_rfl) (by kernel_rfl) (fun _ _ _ h => h) (Or.inl ⟨by rfl, ?hy2⟩) ?rest2
                  case hy2 =>
                   intro w
                   first | (go_simp; done) | (go_simp; rfl) | rfl
                  refine wpAny_ready (rs := [0, 3, 4]) (by kernel_rfl) (by simp) ?_
                  refine AllReady.cons rfl (fun K hK => ?_) ?_
                  · go_simp
                    refine hK _ _ ?_
                    clear hK K
                    refine wpAny_ready (rs := [3, 4]) (by kernel_rfl) (by simp) ?_
                    refine AllReady.cons rfl (fun K hK => ?_) ?_
                    · go_simp
                      refine hK _ _ ?_
                      clear hK K
                      refine wpAny_ready (rs := [4]) (by kernel_rfl) (by simp) ?_
                      refine AllReady.cons rfl (fun K hK => ?_) ?_
                      · go_simp
                        refine hK _ _ ?_
                        clear hK K
                        refine wpAny_ready (rs := [5]) (by kernel_rfl) (by simp) ?_
                        refine AllReady.cons rfl (fun K hK => ?_) ?_
                        · go_simp
                          refine HCH.out.mono ?_
                          rintro e w7 ⟨rfl, he7⟩
                          refine ⟨rfl, ?_⟩
                          rw [← HL0.out, HRR.out]
                          exact ⟨rfl, HPD.out.eff.trans (he7.toS sb base)⟩
                        exact AllReady.nil
                      exact AllReady.nil
                    refine AllReady.cons rfl (fun K hK => ?_) ?_
                    · go_simp
                      refine hK _ _ ?_
                      clear hK K
                      refine wpAny_ready (rs := [3]) (by kernel_rfl) (by simp) ?_
                      refine AllReady.cons rfl (fun K hK => ?_) ?_
                      · go_simp
                        refine hK _ _ ?_
                        clear hK K
                        refine wpAny_ready (rs := [5]) (by kernel_rfl) (by simp) ?_
                        refine AllReady.cons rfl (fun K hK => ?_) ?_
                        · go_simp
                          refine HCH.out.mono ?_
                          rintro e w7 ⟨rfl, he7⟩
                          refine ⟨rfl, ?_⟩
                          rw [← HL0.out, HRR.out]
                          exact ⟨rfl, HPD.out.eff.trans (he7.toS sb base)⟩
                        exact AllReady.nil
                      exact AllReady.nil
                    exact AllReady.nil
                  refine AllReady.cons rfl (fun K hK => ?_) ?_
                  · go_simp
                    refine hK _ _ ?_
                    clear hK K
                    refine wpAny_ready (rs := [0, 4]) (by kernel_rfl) (by simp) ?_
                    refine AllReady.cons rfl (fun K hK => ?_) ?_
                    · go_simp
                      refine hK _ _ ?_
                      clear hK K
                      refine wpAny_ready (rs := [4]) (by kernel_rfl) (by simp) ?_
                      refine AllReady.cons rfl (fun K hK => ?_) ?_
                      · go_simp
                        refine hK _ _ ?_
                        clear hK K
                        refine wpAny_ready (rs := [5]) (by kernel_rfl) (by simp) ?_
                        refine AllReady.cons rfl (fun K hK => ?_) ?_
                        · go_simp
                          refine HCH.out.mono ?_
                          rintro e w7 ⟨rfl, he7⟩
                          refine ⟨rfl, ?_⟩
                          rw [← HL0.out, HRR.out]
                          exact ⟨rfl, HPD.out.eff.trans (he7.toS sb base)⟩
                        exact AllReady.nil
                      exact AllReady.nil
                    refine AllReady.cons rfl (fun K hK => ?_) ?_
                    · go_simp
                      refine hK _ _ ?_
                      clear hK K
                      refine wpAny_ready (rs := [0, 5]) (by kernel_rfl) (by simp) ?_
                      refine AllReady.cons rfl (fun K hK => ?_) ?_
                      · go_simp
                        refine hK _ _ ?_
                        clear hK K
                        refine wpAny_ready (rs := [5]) (by kernel_rfl) (by simp) ?_
                        refine AllReady.cons rfl (fun K hK => ?_) ?_
                        · go_simp
                          refine HCH.out.mono ?_
                          rintro e w7 ⟨rfl, he7⟩
                          refine ⟨rfl, ?_⟩
                          rw [← HL0.out, HRR.out]
                          exact ⟨rfl, HPD.out.eff.trans (he7.toS sb base)⟩
                        exact AllReady.nil
                      refine AllReady.cons rfl (fun K hK => ?_) ?_
                      · go_simp
                        refine HCH.out.mono ?_
                        rintro e w7 ⟨rfl, he7⟩
                        refine ⟨rfl, ?_⟩
                        rw [← HL0.out, HRR.out]
                        exact ⟨rfl, HPD.out.eff.trans (he7.toS sb base)⟩
                      exact AllReady.nil
                    exact AllReady.nil
                  refine AllReady.cons rfl (fun K hK => ?_) ?_
                  · go_simp
                    refine hK _ _ ?_
                    clear hK K
                    refine wpAny_ready (rs := [0, 3]) (by kernel_rfl) (by simp) ?_
                    refine AllReady.cons rfl (fun K hK => ?_) ?_
                    · go_simp
                      refine hK _ _ ?_
                      clear hK K
                      refine wpAny_ready (rs := [3]) (by kernel_rfl) (by simp) ?_
                      refine AllReady.cons rfl (fun K hK => ?_) ?_
                      · go_simp
                        refine hK _ _ ?_
                        clear hK K
                        refine wpAny_ready (rs := [5]) (by kernel_rfl) (by simp) ?_
                        refine AllReady.cons rfl (fun K hK => ?_) ?_
                        · go_simp
                          refine HCH.out.mono ?_
                          rintro e w7 ⟨rfl, he7⟩
                          refine ⟨rfl, ?_⟩
                          rw [← HL0.out, HRR.out]
                          exact ⟨rfl, HPD.out.eff.trans (he7.toS sb base)⟩
                        exact AllReady.nil
                      exact AllReady.nil
                    refine AllReady.cons rfl (fun K hK => ?_) ?_
                    · go_simp
                      refine hK _ _ ?_
                      clear hK K
                      refine wpAny_ready (rs := [0, 5]) (by kernel_rfl) (by simp) ?_
                      refine AllReady.cons rfl (fun K hK => ?_) ?_
                      · go_simp
                        refine hK _ _ ?_
                        clear hK K
                        refine wpAny_ready (rs := [5]) (by kernel_rfl) (by simp) ?_
                        refine AllReady.cons rfl (fun K hK => ?_) ?_
                        · go_simp
                          refine HCH.out.mono ?_
                          rintro e w7 ⟨rfl, he7⟩
                          refine ⟨rfl, ?_⟩
                          rw [← HL0.out, HRR.out]
                          exact ⟨rfl, HPD.out.eff.trans (he7.toS sb base)⟩
                        exact AllReady.nil
                      refine AllReady.cons rfl (fun K hK => ?_) ?_
                      · go_simp
                        refine HCH.out.mono ?_
                        rintro e w7 ⟨rfl, he7⟩
                        refine ⟨rfl, ?_⟩
                        rw [← HL0.out, HRR.out]
                        exact ⟨rfl, HPD.out.eff.trans (he7.toS sb base)⟩
                      exact AllReady.nil
                    exact AllReady.nil
                  exact AllReady.nil
                | ok x =>
                  obtain ⟨c, r3⟩ := x
                  rw [hq] at hch
                  have HCH : Hid (Calls Tryz.prog 95 #[.pointer (some ⟨p, 0, none⟩), .map (some mp)] w9.drew fun e w' => e = .returned (.int .i64 ((1 + c : Nat) : Int)) ∧ PS w' p fin ts r3 ∧ Eff p w9.drew w') := Hi (hch.mono fun e w' ⟨v, h1, h2, h3, h4⟩ => ⟨by rw [h1, h2], h3, h4⟩)
                  have HRR : Hid (itemF st l0 = .ok (st ++ [(.mk 3 t.text (1 + c) v [], 1)], r3)) := Hi (by rw [HB3.out, hq]; rfl)
                  clear hch hq
                  go_wp2_with fail
                  go_region_with (first | (go_at_call 95; refine HCH.out.mono ?_; rintro e w7 ⟨rfl, hp7, he7⟩; have HI7 := Hi (HPD.out.step hp7 he7); have c7 := HI7.out.cells; obtain ⟨cp7, cs7, cm7, lp7, ls7, lm7⟩ := c7; clear hp7 he7) | (go_at_call 135; refine (push_f 3 t.text (1 + c) (v) sb p base 130 fin ts r3 st _ HI7.out.ps HI7.out.sk hf (Nat.le_trans hbw HI7.out.eff.size)).mono ?_; rintro e w8 ⟨rfl, h1, h2, h3⟩; have HO := Hi (HI7.out.push h1 h2 h3); clear h1 h2 h3))
                  all_goals
                   go_wp2_with fail
                   go_end0
                   rw [← HL0.out, HRR.out]
                   exact HO.out
end So
end Go.Proofs.YtbicmjmcdnkjhaaGreatDoor
