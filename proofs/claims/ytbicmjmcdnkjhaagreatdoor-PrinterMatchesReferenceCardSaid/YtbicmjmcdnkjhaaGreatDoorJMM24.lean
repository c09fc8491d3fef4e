/- The reference's southStart: the text of a condition. What all rows of the Printer ask: the listed variables at the door, the library's cell, the builder that hands on the world's shape. A provision that came in as data. -/
import Derived.Test.YtbicmjmcdnkjhaaGreatDoorJMM1
import Derived.Test.YtbicmjmcdnkjhaaGreatDoorJMM21
import Derived.Deep.RegionHeld3
import Derived.Test.YtbicmjmcdnkjhaaGreatDoorJMM7
import Derived.LaidSub
import Derived.MakeChecks
import Derived.Lib.LaidTab
import Derived.ProofKit
import Derived.LaidMore
import Derived.OpenShut
import Derived.Stop.Joined
import Derived.HandedShaped
import Derived.SevenTiedAt
import Derived.Shelf.Vars
import Derived.ChangeSame
import Derived.Test.YtbicmjmcdnkjhaaGreatDoorJMM4
import Derived.Deep.Slices
import Derived.Deep.Fields
set_option linter.unusedVariables false
set_option linter.unusedSimpArgs false
set_option maxRecDepth 20000
set_option maxHeartbeats 16000000
namespace Go.Proofs.YtbicmjmcdnkjhaaGreatDoor
open Go.RowKit
attribute [local go_sem ↓] Go.wp_at_zero Go.wp_at_succ
attribute [local go_sem] bcat
theorem sorSs_app : ∀ a b : List Tree, So.rSs (a ++ b) = So.rSs a ++ So.rSs b
 | [], b => by rw [So.rSs]; rfl
 | t :: r, b => by rw [List.cons_append, So.rSs, So.rSs, sorSs_app r b]; simp
theorem sorSs_snoc {ks : List Tree} {k : Nat} {t : Tree} (h : ks[k]? = some t) : So.rSs (ks.take (k + 1)) = So.rSs (ks.take k) ++ (So.rS t ++ [32]) := by
 rw [List.take_add_one, h, sorSs_app]
 simp [So.rSs]
theorem sorSs_le (ks : List Tree) (k : Nat) : (So.rSs (ks.take k)).length ≤ (So.rSs ks).length := by
 have h := sorSs_app (ks.take k) (ks.drop k)
 rw [List.take_append_drop] at h
 rw [h, List.length_append]
 omega
theorem rsst_any : ∀ (N : Nat) (t : Tree) (cs : List Value) (w : World), t.size ≤ N → t.size ≤ 900 → shapeS t = true → Sh6 (namesS t) → RdX false w cs (up t) →
 Calls Tryz.prog 48 #[.agg cs.toArray] w fun e w' => e = .returned (vs (So.rS t)) ∧ Below w.heap.size w w' := by
 intro N
 induction N with
 | zero =>
   intro t cs w hN
   have := tree_pos t
   omega
 | succ N ih =>
   intro t cs w hN hz hs hn hr
   have IH := Hi ih
   obtain ⟨op, name, cm, m, ks⟩ := t
   rw [up] at hr
   obtain ⟨A1, p1, rfl, -, hk1⟩ := hr
   have HK := Hi hk1
   rw [ups_len] at *
   have hkn := len_sizes ks
   simp only [Tree.size] at hN hz
   obtain ⟨hop, h3, h5, h4⟩ := shapeS_op hs
   rw [namesS] at hn
   have HNR := Hi hn.right
   have HSH := Hi h4
   have HLK := Hi (rSs_len ks (by omega) h4 hn.right)
   obtain ⟨T, hT⟩ : ∃ T, So.rS (.mk op name cm m ks) = T := ⟨_, rfl⟩
   have HT := Hi hT
   rw [hT]
   simp only [tcX]
   obtain ⟨oi, hoi⟩ : ∃ oi : Int, (op : Int) = oi := ⟨_, rfl⟩
   rw [hoi]
   have hbx := heap_alloc_new w (.cells #[.int .i64 oi, vs name, .int .i64 (m : Int), .slice A1 ks.length p1] 28)
   have HBX := Hi hbx
   have c0 := cOb (o := 0) hbx rfl
   have c1 := cOb (o := 1) hbx rfl
   have c2 := cOb (o := 2) hbx rfl
   have c3 := cOb (o := 3) hbx rfl
   have l0 := lHp hbx
   have HW0 := Hi (belowA w (.cells #[.int .i64 oi, vs name, .int .i64 (m : Int), .slice A1 ks.length p1] 28))
   clear ih hs hk1 h4 hT hbx
   have hop2 : op = 1 ∨ op = 2 ∨ op = 3 ∨ (4 ≤ op ∧ op ≤ 7) ∨ (8 ≤ op ∧ op ≤ 9) := by omega
   rcases hop2 with rfl | rfl | rfl | hop2 | hop2
   · obtain rfl : oi = 1 := by rw [← hoi]; rfl
     go_enter Tryz.func48, Tryz.ntmps48
     go_wp2_with fail
     go_ret
     exact ⟨by rw [← HT.out, So.rS]; rfl, HW0.out⟩
   · obtain rfl : oi = 2 := by rw [← hoi]; rfl
     go_enter Tryz.func48, Tryz.ntmps48
     go_wp2_with fail
     go_ret
     exact ⟨by rw [← HT.out, So.rS]; rfl, HW0.out⟩
   · obtain rfl : oi = 3 := by rw [← hoi]; rfl
     have hdl := dec_len (n := m) (by omega)
     have HD : Hid (∀ wx, Calls Tryz.prog 39 #[.int .i64 m] wx fun e w' => e = .returned (vs (dec m)) ∧ wx = w') := Hi (fun wx => rdec_any m wx (by omega))
     have HTX : Hid (dec m ++ [32, 100, 97, 121] = T) := Hi (by rw [← HT.out, So.rS]; rfl)
     generalize dec m = dm at *
     have f1 : ¬ 9223372036854775807 < dm.length + 4 := by omega
     go_enter Tryz.func48, Tryz.ntmps48
     go_wp2_with fail
     refine (HD.out _).mono ?_
     rintro e w' ⟨rfl, rfl⟩
     go_wp2_with fail
     go_ret
     exact ⟨by rw [← HTX.out]; first | rfl | (simp; done), HW0.out⟩
   · have hcs : op = 4 ∨ op = 5 ∨ op = 6 ∨ op = 7 := by omega
     have hnl : name.length ≤ 60 := own_len (r := namesSs ks) (by rw [if_pos hcs] at hn; exact hn)
     clear hop2
     rcases hcs with rfl | rfl | rfl | rfl
     · obtain rfl : oi = 4 := by rw [← hoi]; rfl
       go_enter Tryz.func48, Tryz.ntmps48
       go_wp2_with fail
       go_region
       go_wp2_with fail
       go_ret
       exact ⟨by rw [← HT.out, So.rS]; simp [So.opsW], (HW0.out.trans (((Below.refl _ _).alloc (lR _) _).mono HW0.out.size)).drew⟩
     · obtain rfl : oi = 5 := by rw [← hoi]; rfl
       go_enter Tryz.func48, Tryz.ntmps48
       go_wp2_with fail
       go_region
       go_wp2_with fail
       go_ret
       exact ⟨by rw [← HT.out, So.rS]; simp [So.opsW], (HW0.out.trans (((Below.refl _ _).alloc (lR _) _).mono HW0.out.size)).drew⟩
     · obtain rfl : oi = 6 := by rw [← hoi]; rfl
       go_enter Tryz.func48, Tryz.ntmps48
       go_wp2_with fail
       go_region
       go_wp2_with fail
       go_ret
       exact ⟨by rw [← HT.out, So.rS]; simp [So.opsW], (HW0.out.trans (((Below.refl _ _).alloc (lR _) _).mono HW0.out.size)).drew⟩
     · obtain rfl : oi = 7 := by rw [← hoi]; rfl
       go_enter Tryz.func48, Tryz.ntmps48
       go_wp2_with fail
       go_region
       go_wp2_with fail
       go_ret
       exact ⟨by rw [← HT.out, So.rS]; simp [So.opsW], (HW0.out.trans (((Below.refl _ _).alloc (lR _) _).mono HW0.out.size)).drew⟩
   · have hns : ¬ oi = 1 ∧ ¬ oi = 2 ∧ ¬ oi = 3 ∧ ¬ oi = 4 ∧ ¬ oi = 5 ∧ ¬ oi = 6 ∧ ¬ oi = 7 := by omega
     obtain ⟨i1, i2, i3, i4, i5, i6, i7⟩ := hns
     have q1 : (oi == 1) = false := by simpa using i1
     have q2 : (oi == 2) = false := by simpa using i2
     have q3 : (oi == 3) = false := by simpa using i3
     have q4 : (oi == 4) = false := by simpa using i4
     have q5 : (oi == 5) = false := by simpa using i5
     have q6 : (oi == 6) = false := by simpa using i6
     have q7 : (oi == 7) = false := by simpa using i7
     have HOI := Hi hoi
     have HSL : Hid (∀ k, (So.rSs (ks.take k)).length ≤ 90000) := Hi (fun k => Nat.le_trans (sorSs_le ks k) (by have := HLK.out.2.2; omega))
     clear hoi c0 c1 c2 c3
     go_enter Tryz.func48, Tryz.ntmps48
     have c0 := cOb (o := 0) HBX.out rfl
     go_wp2_with fail
     generalize (w.alloc (.cells #[.int .i64 oi, vs name, .int .i64 (m : Int), .slice A1 ks.length p1] 28)) = w0 at *
     go_loopw [3, 4] (fun v3 v4 wr => ∃ k : Nat, k ≤ ks.length ∧ v4 = .int .i64 k ∧ v3 = vs (So.rSs (ks.take k)) ∧ Below w0.heap.size w0 wr) (fun _ v4 _ => ks.length - (intOf v4).toNat)
     case atStart => exact ⟨0, Nat.zero_le _, rfl, by rw [List.take_zero, So.rSs], Below.refl _ _⟩
     case round =>
      obtain ⟨k, hk, rfl, rfl, hb⟩ := hrel
      have e1 := (hb.block _ l0).trans HBX.out
      have d0 : wr.cell? ⟨w.heap.size, 0, none⟩ = some (.int .i64 oi) := cOb (o := 0) e1 rfl
      have d3 : wr.cell? ⟨w.heap.size, 3, none⟩ = some (.slice A1 ks.length p1) := cOb (o := 3) e1 rfl
      have dl := lHp e1
      have HB := Hi (HW0.out.trans (hb.mono HW0.out.size))
      have HBW := Hi hb
      have hacl := HSL.out k
      clear e1 hb
      by_cases hlt : k < ks.length
      · obtain ⟨t, ht⟩ := gLt hlt
        have hne : ups ks ≠ [] := by
         intro e
         have := congrArg List.length e
         rw [ups_len, List.length_nil] at this
         omega
        obtain ⟨bk, ok, rfl, hbk, hkd⟩ := HK.out.resolve_left hne
        obtain ⟨cs', hcs, hrt⟩ := hkd.kids ht
        have hts := size_of_kid ht
        have hsn := sorSs_snoc ht
        have hHC : ∀ wx, Below w.heap.size w wx → Calls Tryz.prog 48 #[.agg cs'.toArray] wx fun e w' => e = .returned (vs (So.rS t)) ∧ Below wx.heap.size wx w' := fun wx hx => IH.out t cs' wx (by omega) (by omega) (shapeSs_get HSH.out ht) (namesSs_kid ht HNR.out) (hrt.keep hx)
        have hXl := (rS_len t (by omega) (shapeSs_get HSH.out ht) (namesSs_kid ht HNR.out)).2
        obtain ⟨X, hX⟩ : ∃ X, So.rS t = X := ⟨_, rfl⟩
        rw [hX] at hHC hXl hsn
        obtain ⟨ac, hac⟩ : ∃ ac, So.rSs (ks.take k) = ac := ⟨_, rfl⟩
        rw [hac] at hsn hacl ⊢
        have HC := Hi hHC
        have HSN := Hi hsn
        have hX900 : X.length ≤ 90000 := by omega
        clear hX hsn hHC hXl hac
        obtain ⟨o1, n1, c1, m1, k1⟩ := t
        rw [up] at hrt
        obtain ⟨B1, q1, rfl, -, -⟩ := hrt
        rw [ups_len] at hcs HC
        obtain ⟨kl, hkl⟩ : ∃ kl, k1.length = kl := ⟨_, rfl⟩
        obtain ⟨i1, hi1⟩ : ∃ i1 : Int, (o1 : Int) = i1 := ⟨_, rfl⟩
        obtain ⟨d1, hd1⟩ : ∃ d1 : Int, (c1 : Int) = d1 := ⟨_, rfl⟩
        obtain ⟨mi, hmi⟩ : ∃ mi : Int, (m1 : Int) = mi := ⟨_, rfl⟩
        have HUP : Hid (tcX false (o1 : Int) n1 (c1 : Int) (m1 : Int) (.slice B1 k1.length q1) = [.int .i64 i1, vs n1, .int .i64 mi, .slice B1 kl q1]) := Hi (by rw [hkl, hi1, hd1, hmi]; rfl)
        rw [HUP.out] at hcs HC
        clear hkl hi1 hd1 hmi
        have z0 : wr.cell? ⟨bk, ok + k * 4, none⟩ = some (.int .i64 i1) := (HB.out.cell (p := ⟨bk, ok + k * 4, none⟩) hbk).trans (hcs 0 _ rfl)
        have z1 : wr.cell? ⟨bk, ok + k * 4 + 1, none⟩ = some (vs n1) := (HB.out.cell (p := ⟨bk, ok + k * 4 + 1, none⟩) hbk).trans (hcs 1 _ rfl)
        have z2 : wr.cell? ⟨bk, ok + k * 4 + 2, none⟩ = some (.int .i64 mi) := (HB.out.cell (p := ⟨bk, ok + k * 4 + 2, none⟩) hbk).trans (hcs 2 _ rfl)
        have z3 : wr.cell? ⟨bk, ok + k * 4 + 3, none⟩ = some (.slice B1 kl q1) := (HB.out.cell (p := ⟨bk, ok + k * 4 + 3, none⟩) hbk).trans (hcs 3 _ rfl)
        have hk1 : (k : Int) < ks.length := by omega
        have hk0 : (0 : Int) ≤ k := by omega
        have hbl : bk < wr.heap.size := Nat.lt_of_lt_of_le hbk HB.out.size
        clear hcs hkd hne ht
        have f1 : ¬ 9223372036854775807 < X.length + 1 := by omega
        have f2 : ¬ 9223372036854775807 < ac.length + (X.length + 1) := by omega
        go_wp2_with fail
        refine (HC.out _ HB.out).mono ?_
        rintro e w2 ⟨rfl, hb2⟩
        have HB2 := Hi (HBW.out.trans (hb2.mono HBW.out.size))
        clear hb2
        go_wp2_with fail
        exact ⟨⟨k + 1, by omega, by go_num, by rw [HSN.out], HB2.out⟩, by simp [intOf]; omega⟩
      · have hk' : k = ks.length := by omega
        subst hk'
        have hk1 : ¬ ((ks.length : Nat) : Int) < ks.length := by omega
        rw [List.take_length] at hacl ⊢
        obtain ⟨ac, hac⟩ : ∃ ac, So.rSs ks = ac := ⟨_, rfl⟩
        rw [hac] at hacl ⊢
        have HAC := Hi hac
        have hdl := dec_len (n := ks.length) (by omega)
        have HD : Hid (∀ wx, Calls Tryz.prog 39 #[.int .i64 ks.length] wx fun e w' => e = .returned (vs (dec ks.length)) ∧ wx = w') := Hi (fun wx => rdec_any ks.length wx (by omega))
        obtain ⟨dm, hdm⟩ : ∃ dm, dec ks.length = dm := ⟨_, rfl⟩
        rw [hdm] at HD hdl
        have HDM := Hi hdm
        have f1 : ¬ 9223372036854775807 < ac.length + 4 := by omega
        have f2 : ¬ 9223372036854775807 < ac.length + 4 + dm.length := by omega
        have f3 : ¬ 9223372036854775807 < ac.length + 7 := by omega
        clear hac hdm
        rcases (by omega : op = 8 ∨ op = 9) with rfl | rfl
        · obtain rfl : oi = 8 := by rw [← HOI.out]; rfl
          have HTT : Hid (ac ++ ([97, 108, 108, 32] ++ dm) = T) := Hi (by rw [← HT.out, So.rS, HAC.out, HDM.out]; rfl)
          go_wp2_with fail
          refine (HD.out _).mono ?_
          rintro e w5 ⟨rfl, rfl⟩
          go_wp2_with fail
          go_ret
          exact ⟨by rw [← HTT.out]; first | rfl | (simp; done), HB.out⟩
        · obtain rfl : oi = 9 := by rw [← HOI.out]; rfl
          have HTT : Hid (ac ++ ([97, 110, 121, 32] ++ dm) = T) := Hi (by rw [← HT.out, So.rS, HAC.out, HDM.out]; rfl)
          go_wp2_with fail
          refine (HD.out _).mono ?_
          rintro e w5 ⟨rfl, rfl⟩
          go_wp2_with fail
          go_ret
          exact ⟨by rw [← HTT.out]; first | rfl | (simp; done), HB.out⟩
end Go.Proofs.YtbicmjmcdnkjhaaGreatDoor
namespace Go.Proofs.YtbicmjmcdnkjhaaGreatDoor
open Go.ChangeShapes Go.WideShapes Go.ChangeAt Go.RowKit
theorem Tryz.own : ownKnob Tryz.prog.godebug = none := by kernel_rfl
theorem Tryz.laidOut : laidOutB Tryz.prog = true := by kernel_rfl
theorem door_met (os : Os) (args : Array Value) : laidMetH Tryz.prog Rows.printerEqualRow.laid ((World.doorLaid Tryz.prog 400 os).forCall (fun _ _ => 0) ⟨#[], args, []⟩).memory :=
 laidMetH_of_parts3 (fuel := 8) (laidMet_of_run' 8 (by kernel_rfl) (by kernel_rfl)) (by kernel_rfl) (by kernel_rfl)
/- the tables that the library reads, off the row's list -/
theorem tabs_of (W : World) (h : laidMetH Tryz.prog Rows.printerEqualRow.laid W) : Tabs W := by
 refine Tabs.mk' ?_ ?_
 · have h1 := h.filter (fun x => x.1 == "strings.asciiSpace")
   have e : (Rows.printerEqualRow.laid.filter (fun x => x.1 == "strings.asciiSpace") : List (String × DataW Unit)) = [("strings.asciiSpace", Lib.tabData .u8 Lib.asciiSpaceTab)] := by kernel_rfl
   rw [e, Go.MakeChecks.laidMetH_plain _ _ _ (by kernel_rfl)] at h1
   exact Lib.tabIs_of_head (g := 0) (rest := []) (by kernel_rfl) (by kernel_rfl) Tryz.underlying157 Tryz.underlying5 (by kernel_rfl) (by kernel_rfl) h1
 · have h1 := h.filter (fun x => x.1 == "internal/strconv.uint64pow10")
   have e : (Rows.printerEqualRow.laid.filter (fun x => x.1 == "internal/strconv.uint64pow10") : List (String × DataW Unit)) = [("internal/strconv.uint64pow10", Lib.tabData .u64 Lib.pow10Tab)] := by kernel_rfl
   rw [e, Go.MakeChecks.laidMetH_plain _ _ _ (by kernel_rfl)] at h1
   exact Lib.tabIs_of_head (g := 3) (rest := []) (by kernel_rfl) (by kernel_rfl) Tryz.underlying264 Tryz.underlying137 (by kernel_rfl) (by kernel_rfl) h1
/- 'returnsInHanded_of_change_and' with the world's shape handed on -/
theorem change_shaped_and {H : Type} {enc : TypeId × Value → H} {a : Assume} {C : Checked} {os : Os} {f : FuncId} {fn : Func} {s : ChangeSpec} {conds : List PathCond} {apart fresh handsOn again : Bool} {X : World → Array Value → Prop}
 (hX : ∀ (w w' : World) (args : Array Value), w.heap = w'.heap → X w args → X w' args)
 (own : ownKnob C.prog.godebug = none) (started : os.Started) (noInit : C.prog.inits.idxOf? f = none) (hfn : C.prog.funcs[f]? = some fn)
 (witness : ∃ (w : World) (tape : Tape) (i : Input), w.os = os ∧ (w.forCall tape i).Shaped C.prog ∧ i.vars = [] ∧ Input.okWide C.prog (w.forCall tape i) .any w.heap.size f i ∧
   ((s.pre enc C.prog fn conds apart (w.forCall tape i).memory i.args ∧ X (w.forCall tape i).memory i.args) ∧ sizedMet enc C.prog fn (OpenSpec.ofChange s) apart (w.forCall tape i).memory i.args) ∧ a.holds C.prog (lone (Frame.enter C.prog f i.args .normal) [] (w.forCall tape i)))
 (contract : ∀ (W : World) (base : Nat) (args : Array Value) (ds gs : List (DataW H)) (before : List MemPlace),
   (∀ (j : Nat) t v, fn.params[j]? = some t → args[j]? = some v → Value.okWide C.prog W .any base t v) →
   DataW.Whole enc C.prog fn.params.toList s.vars apart W args.toList ds gs before →
   conds.all (PathCond.test C.prog ⟨fn.params.toList, ds, s.plain.varTypes C.prog, gs⟩) = true →
   (DataW.weightsEach C.prog (fn.params.toList ++ s.plain.varTypes C.prog) (ds ++ gs)).all (· ≤ reachBytes) = true → X W args → W.ShapedOpen C.prog →
   a.holds C.prog (lone (Frame.enter C.prog f args .normal) [] W) →
   Calls C.prog f args W fun e W' => ∃ v, e = .returned v ∧ s.post enc C.prog fn apart fresh handsOn again W args v W') :
 ReturnsInHanded a C os f .any (fun w args => (s.pre enc C.prog fn conds apart w args ∧ X w args) ∧ sizedMet enc C.prog fn (OpenSpec.ofChange s) apart w args) (s.post enc C.prog fn apart fresh handsOn again) := by
 refine returnsInHanded_of_calls own started noInit witness ?_
 intro w tape i _ hsh _ hok hpre hholds
 obtain ⟨_, _, _, fn', hfn', _, _, _, _, hval⟩ := hok
 have e : fn' = fn := Option.some.inj (hfn'.symm.trans hfn)
 subst e
 obtain ⟨⟨⟨ds, gs, before, hw, hc⟩, hx⟩, hz⟩ := hpre
 have hw' := DataW.Whole.of_heap (w' := w.forCall tape i) (by rfl) hw
 refine (contract (w.forCall tape i) w.heap.size i.args ds gs before hval hw' hc (hz.weights hw) (hX _ _ _ (by rfl) hx) hsh hholds).mono fun e W' ⟨v, he, hp⟩ => ?_
 subst he
 exact ChangeSpec.post_blind hp
end Go.Proofs.YtbicmjmcdnkjhaaGreatDoor
set_option maxRecDepth 100000
set_option maxHeartbeats 1000000
namespace Go.Proofs.YtbicmjmcdnkjhaaGreatDoor
open Go.RowKit Go.ChangeShapes Go.WideShapes Go.Deep
theorem cells_form : Tryz.prog.cellsOf 24 = 5 := by kernel_rfl
theorem cells_start : Tryz.prog.cellsOf 28 = 4 := by kernel_rfl
theorem cells_prov : Tryz.prog.cellsOf 30 = 23 := by kernel_rfl
theorem cells_ones : Tryz.prog.cellsOf 9 = 1 ∧ Tryz.prog.cellsOf 3 = 1 ∧ Tryz.prog.cellsOf 22 = 1 ∧ Tryz.prog.cellsOf 26 = 1 ∧ Tryz.prog.cellsOf 25 = 1 := ⟨by kernel_rfl, by kernel_rfl, by kernel_rfl, by kernel_rfl, by kernel_rfl⟩
section
variable {H : Type} {enc : TypeId × Value → H} {w : World} {base : Nat} {spare : Nat → Bool} {held : Bool}
theorem str_etaX (s : ByteArray) : Value.string s = vs s.data.toList := by
 show Value.string s = Value.string ⟨s.data.toList.toArray⟩
 rw [Array.toArray_toList]
theorem choose_lt' {α : Type} [Inhabited α] {n : Nat} {Q : Nat → α → Prop} (h : ∀ i, i < n → ∃ a, Q i a) : ∃ f : Nat → α, ∀ i, i < n → Q i (f i) := by
 refine ⟨fun i => if hi : i < n then Classical.choose (h i hi) else default, fun i hi => ?_⟩
 simp only [dif_pos hi]
 exact Classical.choose_spec (h i hi)
instance : Inhabited TreeI := ⟨.mk 0 [] 0 0 []⟩
theorem range_get {α : Type} {n k : Nat} {f : Nat → α} {x : α} (h : ((List.range n).map f)[k]? = some x) : k < n ∧ x = f k := by
 rw [List.getElem?_map] at h
 by_cases hk : k < n
 · rw [List.getElem?_range hk] at h
   simp at h
   exact ⟨hk, h.symm⟩
 · rw [List.getElem?_eq_none (by simpa using hk)] at h
   simp at h
/- kids that came in -/
theorem kids_open {fm : Bool} {t e : TypeId} (ht : Tryz.prog.underlying t = some (.slice e)) (he : Tryz.prog.cellsOf e = tszX fm) {fuel : Nat}
 (ho : ∀ {n : Nat} {cs : List Value} {x : DataW H × List MemPlace}, n < fuel → DataW.trod enc Tryz.prog w base spare held n e cs = some x → ∃ a, RdX fm w cs a)
 {v : Value} {x : DataW H × List MemPlace} (h : DataW.trod enc Tryz.prog w base spare held fuel t [v] = some x) :
 ∃ (l : List TreeI) (A : Option Addr) (c : Nat), v = .slice A l.length c ∧ l.length ≤ c ∧ (l = [] ∨ ∃ b o, A = some ⟨b, o, none⟩ ∧ b < w.heap.size ∧ RdXs fm w b o l) := by
 have hs : 0 < tszX fm := by cases fm <;> decide
 rcases DataW.trod_slice ht h with ⟨h1, h2⟩ | ⟨a, len, cap, elems, rest, n, hfu, h1, -, hb, hlc, hcm, hel, hi, -, -⟩
 · exact ⟨[], none, 0, by simpa using h1, lR _, .inl rfl⟩
 · rw [he] at hi
   have hex : ∀ i, i < len → ∃ it : TreeI, ∃ cs, w.cells? base (a.add (i * tszX fm)) (tszX fm) = some cs ∧ RdX fm w cs it := by
    intro i hil
    have hx := hi i hil
    obtain ⟨y, hy⟩ : ∃ y, elems[i]? = some y := ⟨_, List.getElem?_eq_getElem (by omega)⟩
    rw [hy, Option.bind_eq_some_iff] at hx
    obtain ⟨cs', hc, ht'⟩ := hx
    obtain ⟨it, e1⟩ := ho (by omega) ht'
    exact ⟨it, cs', hc, e1⟩
   obtain ⟨f, hf⟩ := choose_lt' hex
   refine ⟨(List.range len).map f, some a, cap, by simpa using h1, by simpa using hlc, ?_⟩
   by_cases hne : len = 0
   · subst hne; exact .inl rfl
   right
   have hpos : 0 < len := by omega
   obtain ⟨b, off, spot⟩ := a
   obtain ⟨c0, hc0, hr0⟩ := hf 0 hpos
   have h0 := (World.cells?_some hc0).2.2 0 hs
   have hv0 : ∃ v0, c0[0]? = some v0 := ⟨_, List.getElem?_eq_getElem (by rw [hr0.len]; exact hs)⟩
   obtain ⟨v0, hv0⟩ := hv0
   rw [hv0] at h0
   have hspot : spot = none := by simpa [Addr.add] using World.cell?_spot h0
   subst hspot
   refine ⟨b, off, rfl, ?_, RdXs.mk fun k x hx => ?_⟩
   · have := World.block_lt_of_cell? w _ h0
     simpa [Addr.add] using this
   · obtain ⟨hk, rfl⟩ := range_get hx
     obtain ⟨ck, hck, hrk⟩ := hf k hk
     refine ⟨ck, fun j v hv => ?_, hrk⟩
     have hj := (List.getElem?_eq_some_iff.1 hv).1
     rw [hrk.len] at hj
     have hc := (World.cells?_some hck).2.2 j hj
     rw [hv] at hc
     rw [← hc]
     congr 1
     rw [Go.WideShapes.add_plain, Go.WideShapes.add_plain]
theorem open_form : ∀ (fuel : Nat) {cs : List Value} {x : DataW H × List MemPlace}, DataW.trod enc Tryz.prog w base spare held fuel 24 cs = some x → ∃ t, RdX true w cs t := by
 intro fuel
 induction fuel using Nat.strongRecOn with
 | ind fuel ih =>
   intro cs x h
   obtain ⟨xs, n, rfl, hx, hlen, hxl, hf⟩ := DataW.trod_struct Tryz.underlying24 h
   rw [cells_form] at hlen
   obtain ⟨c1, c2, c3, c4, c5⟩ := cells_ones
   match cs, hlen, xs, hxl with
   | [v0, v1, v2, v3, v4], _, [x0, x1, x2, x3, x4], _ =>
     have f0 := hf 0 _ rfl
     have f1 := hf 1 _ rfl
     have f2 := hf 2 _ rfl
     have f3 := hf 3 _ rfl
     have f4 := hf 4 _ rfl
     simp [c1, c2, c3] at f0 f1 f2 f3 f4
     obtain ⟨k0, e0, g0, _⟩ := DataW.trod_int Tryz.underlying3 f0
     obtain ⟨s1, e1, g1, _⟩ := DataW.trod_string Tryz.underlying9 f1
     obtain ⟨k2, e2, g2, _⟩ := DataW.trod_int Tryz.underlying3 f2
     obtain ⟨k3, e3, g3, _⟩ := DataW.trod_int Tryz.underlying3 f3
     obtain ⟨l, A, c, rfl, hlc, hr⟩ := kids_open (fm := true) Tryz.underlying22 cells_form (fun {m} {cs} {x} hm h => ih m (by omega) h) f4
     simp only [List.cons.injEq, and_true] at e0 e1 e2 e3
     subst e0 e1 e2 e3
     refine ⟨.mk k0 s1.data.toList k2 k3 l, A, c, ?_, hlc, hr⟩
     simp only [tcX, str_etaX]
theorem open_start : ∀ (fuel : Nat) {cs : List Value} {x : DataW H × List MemPlace}, DataW.trod enc Tryz.prog w base spare held fuel 28 cs = some x → ∃ t, RdX false w cs t := by
 intro fuel
 induction fuel using Nat.strongRecOn with
 | ind fuel ih =>
   intro cs x h
   obtain ⟨xs, n, rfl, hx, hlen, hxl, hf⟩ := DataW.trod_struct Tryz.underlying28 h
   rw [cells_start] at hlen
   obtain ⟨c1, c2, c3, c4, c5⟩ := cells_ones
   match cs, hlen, xs, hxl with
   | [v0, v1, v2, v3], _, [x0, x1, x2, x3], _ =>
     have f0 := hf 0 _ rfl
     have f1 := hf 1 _ rfl
     have f2 := hf 2 _ rfl
     have f3 := hf 3 _ rfl
     simp [c1, c2, c4] at f0 f1 f2 f3
     obtain ⟨k0, e0, g0, _⟩ := DataW.trod_int Tryz.underlying3 f0
     obtain ⟨s1, e1, g1, _⟩ := DataW.trod_string Tryz.underlying9 f1
     obtain ⟨k2, e2, g2, _⟩ := DataW.trod_int Tryz.underlying3 f2
     obtain ⟨l, A, c, rfl, hlc, hr⟩ := kids_open (fm := false) Tryz.underlying26 cells_start (fun {m} {cs} {x} hm h => ih m (by omega) h) f3
     simp only [List.cons.injEq, and_true] at e0 e1 e2
     subst e0 e1 e2
     refine ⟨.mk k0 s1.data.toList 0 k2 l, A, c, ?_, hlc, hr⟩
     simp only [tcX, str_etaX]
mutual
/- a start's tree without signs -/
def flat : TreeI → TreeI
 | .mk op name _ n ks => .mk op name 0 n (flats ks)
def flats : List TreeI → List TreeI
 | [] => []
 | k :: r => flat k :: flats r
end
theorem flats_len : ∀ ks : List TreeI, (flats ks).length = ks.length
 | [] => by rw [flats]
 | k :: r => by rw [flats, List.length_cons, List.length_cons, flats_len r]
mutual
theorem plain_flat : ∀ t : TreeI, plainS (flat t)
 | .mk _ _ _ _ ks => by rw [flat, plainS]; exact ⟨rfl, plain_flats ks⟩
theorem plain_flats : ∀ ks : List TreeI, plainSs (flats ks)
 | [] => by rw [flats, plainSs]; trivial
 | k :: r => by rw [flats, plainSs]; exact ⟨plain_flat k, plain_flats r⟩
end
mutual
theorem RdX.flat {w : World} : ∀ {cs : List Value} {t : TreeI}, RdX false w cs t → RdX false w cs (flat t)
 | cs, .mk op name cmp n ks, h => by
   obtain ⟨A, cap, h1, h2, h3⟩ := h
   rw [Go.Proofs.YtbicmjmcdnkjhaaGreatDoor.flat]
   refine ⟨A, cap, by rw [h1, flats_len]; rfl, by rw [flats_len]; exact h2, ?_⟩
   rcases h3 with h3 | ⟨b, o, hA, hlt, h3⟩
   · subst h3; left; rw [flats]
   · exact .inr ⟨b, o, hA, hlt, RdXs.flat h3⟩
theorem RdXs.flat {w : World} {b : Nat} : ∀ {o : Nat} {ks : List TreeI}, RdXs false w b o ks → RdXs false w b o (flats ks)
 | o, [], h => by rw [flats, RdXs]; trivial
 | o, t :: r, h => by
   rw [RdXs] at h
   rw [flats, RdXs]
   obtain ⟨⟨cs, h1, h2⟩, h3⟩ := h
   exact ⟨⟨cs, h1, RdX.flat h2⟩, RdXs.flat h3⟩
end
theorem open_strs' {fuel : Nat} {v : Value} {x : DataW H × List MemPlace} (h : DataW.trod enc Tryz.prog w base spare held fuel 25 [v] = some x) :
 ∃ (l : List (List UInt8)) (A : Option Addr) (c : Nat), v = .slice A l.length c ∧ l.length ≤ c ∧ c ≤ maxLen ∧ RdS w A l := by
 rcases open_slice Tryz.underlying25 h with ⟨h1, h2⟩ | ⟨a, len, cap, m, n, Dd, Pl, h1, hb, hlc, hcm, hm, hx, hi⟩
 · exact ⟨[], none, 0, by simpa using h1, lR _, by simp, Sl.nil⟩
 · have hlm : len ≤ m := by rw [hm]; split <;> omega
   rw [cells_ones.1] at hi
   have hex : ∀ i, i < len → ∃ s : List UInt8, w.cells? base (a.add (i * 1)) 1 = some [vs s] := by
    intro i hil
    obtain ⟨cs', hc, ht'⟩ := hi i (by omega)
    obtain ⟨s, e1, -, _⟩ := DataW.trod_string Tryz.underlying9 ht'
    exact ⟨s.data.toList, by rw [hc, e1, str_etaX]⟩
   obtain ⟨f, hf⟩ := choose_lt' hex
   refine ⟨(List.range len).map f, some a, cap, by simpa using h1, by simpa using hlc, hcm, ?_⟩
   intro hne
   have hpos : 0 < len := by
    cases len with
    | zero => simp at hne
    | succ k => omega
   obtain ⟨b, off, spot⟩ := a
   have h0 := (World.cells?_some (hf 0 hpos)).2.2 0 (by omega)
   have hspot : spot = none := by simpa [Addr.add] using World.cell?_spot h0
   subst hspot
   refine ⟨b, off, rfl, ?_, ?_⟩
   · have := World.block_lt_of_cell? w _ h0
     simpa [Addr.add] using this
   · intro k x hx j v hv
     obtain ⟨hk, rfl⟩ := range_get hx
     have hj : j = 0 := by
      have := (List.getElem?_eq_some_iff.1 hv).1
      simpa using this
     subst hj
     have hc := (World.cells?_some (hf k hk)).2.2 0 (by omega)
     rw [hv] at hc
     rw [← hc]
     congr 1
     rw [Go.WideShapes.add_plain, Go.WideShapes.add_plain]
theorem open_prov {b0 : Nat} {v : Value} {d : DataW H} {p : List MemPlace} (hv : Value.okWide Tryz.prog w .any b0 30 v) (h : DataW.Trod enc Tryz.prog w base spare held 30 v d p) :
 ∃ (cs : List Value) (q : ProvI), v = .agg cs.toArray ∧ RdPX w cs q ∧ plainP q ∧ q.exc.length ≤ maxLen := by
 obtain ⟨cs, rfl, hsz⟩ := okWide_struct Tryz.underlying30 hv
 obtain ⟨l0⟩ := cs
 rw [cells_prov] at hsz
 obtain ⟨fuel, hfu⟩ := h
 obtain ⟨xs, n, _, hx, _, hlen, hf⟩ := DataW.trod_struct Tryz.underlying30 hfu
 obtain ⟨c1, c2, c3, c4, c5⟩ := cells_ones
 match l0, hsz, xs, hlen with
 | [v0, v1, v2, v3, v4, v5, v6, v7, v8, v9, v10, v11, v12, v13, v14, v15, v16, v17, v18, v19, v20, v21, v22], _, [x0, x1, x2, x3, x4, x5, x6, x7, x8, x9], _ =>
   have f0 := hf 0 _ rfl
   have f1 := hf 1 _ rfl
   have f2 := hf 2 _ rfl
   have f3 := hf 3 _ rfl
   have f4 := hf 4 _ rfl
   have f5 := hf 5 _ rfl
   have f6 := hf 6 _ rfl
   have f7 := hf 7 _ rfl
   have f8 := hf 8 _ rfl
   have f9 := hf 9 _ rfl
   simp [Value.cells, c1, c2, c5, cells_form, cells_start] at f0 f1 f2 f3 f4 f5 f6 f7 f8 f9
   obtain ⟨s0, e0, g0, _⟩ := DataW.trod_string Tryz.underlying9 f0
   obtain ⟨k1, e1, g1, _⟩ := DataW.trod_int Tryz.underlying3 f1
   obtain ⟨k2, e2, g2, _⟩ := DataW.trod_int Tryz.underlying3 f2
   obtain ⟨s3, e3, g3, _⟩ := DataW.trod_string Tryz.underlying9 f3
   obtain ⟨k4, e4, g4, _⟩ := DataW.trod_int Tryz.underlying3 f4
   obtain ⟨t5, r5⟩ := open_form _ f5
   obtain ⟨l6, A6, c6, rfl, hlc, hcm, r6⟩ := open_strs' f6
   obtain ⟨t7, r7⟩ := open_start _ f7
   obtain ⟨t8, r8⟩ := open_start _ f8
   obtain ⟨t9, r9⟩ := open_start _ f9
   simp only [List.cons.injEq, and_true] at e0 e1 e2 e3 e4
   subst e0 e1 e2 e3 e4
   refine ⟨_, ⟨s0.data.toList, k1, k2, s3.data.toList, k4, t5, l6, flat t7, flat t8, flat t9⟩, rfl, ⟨[v5, v6, v7, v8, v9], A6, c6, [v11, v12, v13, v14], [v15, v16, v17, v18], [v19, v20, v21, v22], ?_, hlc, r5, r6, r7.flat, r8.flat, r9.flat⟩, ⟨plain_flat _, plain_flat _, plain_flat _⟩, by show l6.length ≤ _; omega⟩
   simp only [str_etaX]
   rfl
end
end Go.Proofs.YtbicmjmcdnkjhaaGreatDoor
