/- provision -/
import Derived.Test.YtbicmjmcdnkjhaaGreatDoorJNN41
import Derived.Deep.CutRange
set_option linter.unusedVariables false
set_option linter.unusedSimpArgs false
set_option maxRecDepth 20000
set_option maxHeartbeats 4000000
namespace Go.Proofs.YtbicmjmcdnkjhaaGreatDoor
open Go.RowKit
theorem RdProv.weak {base base' : Nat} {W W' : World} {cs : List Value} {P : Prov} (h : RdProv base W cs P) (hb : base' ≤ base) (hs : W.heap.size ≤ W'.heap.size) (hk : ∀ k, base ≤ k → k < W.heap.size → W'.heap[k]? = W.heap[k]?) : RdProv base' W' cs P := by
 obtain ⟨cc, A, cap, cb, cf, ca, h0, h1, h2, h3, h4, h5, h6⟩ := h
 have h3' := Stab.exc _ _ hs hk h3
 exact ⟨cc, A, cap, cb, cf, ca, h0, h1, h2.keep hs (fun k a b => ⟨by omega, hk k a b⟩), ⟨h3'.1, fun b o hA => ⟨by have := (h3'.2 b o hA).1; omega, (h3'.2 b o hA).2⟩⟩, h4.keep hs (fun k a b => ⟨by omega, hk k a b⟩), h5.keep hs (fun k a b => ⟨by omega, hk k a b⟩), h6.keep hs (fun k a b => ⟨by omega, hk k a b⟩)⟩
theorem Off.row {b : Nat} (w : World) (C : Array Value) : Off b w (w.setRow b C) := by
 refine ⟨rfl, rfl, rfl, by simp [World.setRow], fun k hk => ?_⟩
 have : ¬ b = k := fun e => hk e.symm
 simp [World.setRow, Array.getElem?_modify, this]
@[go_sem] theorem blk_setRow_at {W : World} {b : Nat} {C D : Array Value} {t : TypeId} {fr : Nat × Nat} (h : W.blk b = some (.cells C t fr)) : (W.setRow b D).blk b = some (.cells D t fr) := by
 unfold World.blk at *
 simp [World.setRow, Array.getElem?_modify, h]
theorem prov_fin {w wX : World} {p fin : Nat} {res : R Prov} {P : Prov} {C : List Value} {M : World → Prop} (h : PV w wX p fin [] C M) (hm : ∀ W, M W → RdProv (w.heap.size + 2) W C P) (hr : res = .ok (P, [])) :
 OutR p fin w res (ProvV w) (.returned (.agg C.toArray)) (wX.setRow w.heap.size C.toArray) := by
 rw [hr]
 have ho : Off w.heap.size wX (wX.setRow w.heap.size C.toArray) := Off.row _ _
 have hlt := h.lt
 exact ⟨_, rfl, ⟨_, rfl, (hm _ h.mem).weak (by omega) (Nat.le_of_eq ho.size.symm) (fun k hk _ => ho.block k (by omega))⟩, h.ps.off ho hlt, h.eff.off ho (Nat.le_refl _)⟩
theorem prov_any (n p fin : Nat) (l : List Tok) (w : World) (hp : PS w p fin l) (hl : l.length < n) (hn : n ≤ 6001) :
 Calls Tryz.prog 54 #[.pointer (some ⟨p, 0, none⟩)] w (OutR p fin w (endF (provF n l)) (ProvV w)) := by
 have HP := Lib.hid hp
 have hpl := hp.lt
 clear hp
 go_enter Tryz.func54, Tryz.ntmps54
 go_wp2_with fail
 rw [rowStore_cells _ _ _ _ _ (by rfl) (by rfl) (by rfl)]
 go_wp2_with fail
 have HV := Lib.hid (PV.start HP.out [.string ⟨#[]⟩, .int .i64 0, .int .i64 0, .string ⟨#[]⟩, .int .i64 0, .int .i64 1, .string ⟨#[]⟩, .int .i64 0, .int .i64 0, .slice none 0 0, .slice none 0 0, .int .i64 0, .string ⟨#[]⟩, .int .i64 0, .slice none 0 0, .int .i64 0, .string ⟨#[]⟩, .int .i64 0, .slice none 0 0, .int .i64 0, .string ⟨#[]⟩, .int .i64 0, .slice none 0 0])
 refine must_out [[99, 111, 110, 115, 116, 105, 116, 117, 116, 105, 111, 110], [97, 99, 116], [114, 101, 103, 117, 108, 97, 116, 105, 111, 110], [98, 121, 108, 97, 119]] _ 4 rfl 4 p fin l _ (HV.out.alloc _).ps (RdS.new (alloc_at (by simp))) (by omega) ?_ ?_
 case refine_2 =>
  intro c s wE hq heE
  have HQE := Lib.hid hq
  clear hq
  go_wp2_with fail
  refine ⟨rfl, ?_⟩
  rw [show endF (provF n l) = .error (c, s) by simp only [endF, provF, bodyF, HQE.out, bindR]]
  exact ⟨rfl, (HV.out.alloc _).eff.trans heE⟩
 case refine_1 =>
  intro i r1 w1 hq hi hr hp1 he1
  have HQ1 := Lib.hid hq
  have HV1 := Lib.hid ((HV.out.alloc _).call he1 hp1)
  have h0 : (0 : Int) ≤ i := by omega
  obtain ⟨e1, g1⟩ := HV1.out.cells 1 rfl
  have dl := HV1.out.room.1
  clear hq hp1 he1
  go_wp2_with fail
  have HV1' := Lib.hid (HV1.out.set 1 (.int .i64 (1 + i : Nat)))
  refine calls_out (name_any p fin r1 _ HV1'.out.ps) ?_ ?_
  case refine_2 =>
   intro c s wE hq heE
   have HQE := Lib.hid hq
   clear hq
   go_wp2_with fail
   refine ⟨rfl, ?_⟩
   rw [show endF (provF n l) = .error (c, s) by simp only [endF, provF, bodyF, HQ1.out, HQE.out, bindR]]
   exact ⟨rfl, HV1'.out.eff.trans heE⟩
  case refine_1 =>
   intro id r2 v w2 hq hv hp2 he2
   subst hv
   have HQ2 := Lib.hid hq
   have HV2 := Lib.hid (HV1'.out.call he2 hp2)
   obtain ⟨e0, g0⟩ := HV2.out.cells 0 rfl
   have dl := HV2.out.room.1
   clear hq hp2 he2 e1 g1 HV1 HV1' HV
   go_wp2_with fail
   have HV2' := Lib.hid ((HV2.out.set 0 (vs id)).alloc (.cells #[vs [58]] 9 (0, 0)))
   refine must_out [[58]] _ 1 rfl 1 p fin r2 _ HV2'.out.ps (RdS.new (alloc_at (by simp))) (by omega) ?_ ?_
   case refine_2 =>
    intro c s wE hq heE
    have HQE := Lib.hid hq
    clear hq
    go_wp2_with fail
    refine ⟨rfl, ?_⟩
    rw [show endF (provF n l) = .error (c, s) by simp only [endF, provF, bodyF, HQ1.out, HQ2.out, HQE.out, bindR]]
    exact ⟨rfl, HV2'.out.eff.trans heE⟩
   case refine_1 =>
    intro i3 r3 w3 hq hi3 hr3 hp3 he3
    have HQ3 := Lib.hid hq
    have HV3 := Lib.hid (HV2'.out.call he3 hp3)
    have hlen3 : r3.length < n := by
     have h1 := (Sane.name (n := n)).ok _ _ _ (by omega) HQ2.out
     omega
    clear hq hp3 he3 e0 g0 HV2 HV2'
    go_wp2_with fail
    have HV3' := Lib.hid (HV3.out.alloc (.cells #[vs [100, 101, 102, 105, 110, 101], vs [97, 110, 115, 119, 101, 114]] 9 (0, 0)))
    refine must_out [[100, 101, 102, 105, 110, 101], [97, 110, 115, 119, 101, 114]] _ 2 rfl 2 p fin r3 _ HV3'.out.ps (RdS.new (alloc_at (by simp))) (by omega) ?_ ?_
    case refine_2 =>
     intro c s wE hq heE
     have HQE := Lib.hid hq
     clear hq
     go_wp2_with fail
     refine ⟨rfl, ?_⟩
     rw [show endF (provF n l) = .error (c, s) by simp only [endF, provF, bodyF, kindF, HQ1.out, HQ2.out, HQ3.out, HQE.out, bindR]]
     exact ⟨rfl, HV3'.out.eff.trans heE⟩
    case refine_1 =>
     intro i4 r4a w4 hq hi4 hr4 hp4 he4
     have HQ4 := Lib.hid hq
     have HV4 := Lib.hid (HV3'.out.call he4 hp4)
     clear hq hp4 he4 HV3 HV3'
     go_upto_if 20 with fail
     go_cut [] from 4 (fun wc => ∃ (kk : Nat) (s : List UInt8) (vv : Nat) (r4 : List Tok), kindF r3 = .ok ((kk, s, vv), r4) ∧ PV w wc p fin r4 [vs id, .int .i64 (1 + i : Nat), .int .i64 (kk : Nat), vs s, .int .i64 (vv : Nat), .int .i64 1, .string ⟨#[]⟩, .int .i64 0, .int .i64 0, .slice none 0 0, .slice none 0 0, .int .i64 0, .string ⟨#[]⟩, .int .i64 0, .slice none 0 0, .int .i64 0, .string ⟨#[]⟩, .int .i64 0, .slice none 0 0, .int .i64 0, .string ⟨#[]⟩, .int .i64 0, .slice none 0 0] (fun _ => True))
     case first =>
      obtain rfl | rfl : i4 = 0 ∨ i4 = 1 := by omega
      · go_wp2_with fail
        refine calls_out (name_any p fin r4a _ HV4.out.ps) ?_ ?_
        case refine_2 =>
         intro c s wE hq heE
         have HQE := Lib.hid hq
         clear hq
         go_wp2_with fail
         refine ⟨rfl, ?_⟩
         rw [show endF (provF n l) = .error (c, s) by simp only [endF, provF, bodyF, kindF, HQ1.out, HQ2.out, HQ3.out, HQ4.out, HQE.out, bindR]]
         exact ⟨rfl, HV4.out.eff.trans heE⟩
        case refine_1 =>
         intro s r4 v w5 hq hv hp5 he5
         subst hv
         have HQ5 := Lib.hid hq
         have HV5 := Lib.hid (HV4.out.call he5 hp5)
         obtain ⟨e2, g2⟩ := HV5.out.cells 2 rfl
         obtain ⟨e3, g3⟩ := HV5.out.cells 3 rfl
         have dl := HV5.out.room.1
         clear hq hp5 he5
         go_wp2_with fail
         go_meet
         case rel => exact ⟨1, s, 0, r4, by simp only [kindF, HQ4.out, HQ5.out, bindR], (HV5.out.set 2 (.int .i64 (1 : Nat))).set 3 (vs s)⟩
      · go_wp2_with fail
        refine calls_out (name_any p fin r4a _ HV4.out.ps) ?_ ?_
        case refine_2 =>
         intro c s wE hq heE
         have HQE := Lib.hid hq
         clear hq
         go_wp2_with fail
         refine ⟨rfl, ?_⟩
         rw [show endF (provF n l) = .error (c, s) by simp only [endF, provF, bodyF, kindF, HQ1.out, HQ2.out, HQ3.out, HQ4.out, HQE.out, bindR]]
         exact ⟨rfl, HV4.out.eff.trans heE⟩
        case refine_1 =>
         intro s r5 v w5 hq hv hp5 he5
         subst hv
         have HQ5 := Lib.hid hq
         have HV5 := Lib.hid (HV4.out.call he5 hp5)
         obtain ⟨e2, g2⟩ := HV5.out.cells 2 rfl
         obtain ⟨e3, g3⟩ := HV5.out.cells 3 rfl
         have dl := HV5.out.room.1
         clear hq hp5 he5
         go_wp2_with fail
         have HV5' := Lib.hid (((HV5.out.set 2 (.int .i64 (2 : Nat))).set 3 (vs s)).alloc (.cells #[vs [105, 115]] 9 (0, 0)))
         refine must_out [[105, 115]] _ 1 rfl 1 p fin r5 _ HV5'.out.ps (RdS.new (alloc_at (by simp))) (by omega) ?_ ?_
         case refine_2 =>
          intro c s wE hq heE
          have HQE := Lib.hid hq
          clear hq
          go_wp2_with fail
          refine ⟨rfl, ?_⟩
          rw [show endF (provF n l) = .error (c, s) by simp only [endF, provF, bodyF, kindF, HQ1.out, HQ2.out, HQ3.out, HQ4.out, HQ5.out, HQE.out, bindR]]
          exact ⟨rfl, HV5'.out.eff.trans heE⟩
         case refine_1 =>
          intro i6 r6 w6 hq hi6 hr6 hp6 he6
          have HQ6 := Lib.hid hq
          have HV6 := Lib.hid (HV5'.out.call he6 hp6)
          clear hq hp6 he6
          go_wp2_with fail
          refine calls_out (number_any 1000000 p fin r6 _ HV6.out.ps) ?_ ?_
          case refine_2 =>
           intro c s wE hq heE
           have HQE := Lib.hid hq
           clear hq
           go_wp2_with fail
           refine ⟨rfl, ?_⟩
           rw [show endF (provF n l) = .error (c, s) by simp only [endF, provF, bodyF, kindF, HQ1.out, HQ2.out, HQ3.out, HQ4.out, HQ5.out, HQ6.out, HQE.out, bindR]]
           exact ⟨rfl, HV6.out.eff.trans heE⟩
          case refine_1 =>
           intro m r7 v w7 hq hv hp7 he7
           subst hv
           have HQ7 := Lib.hid hq
           have HV7 := Lib.hid (HV6.out.call he7 hp7)
           obtain ⟨e4, g4⟩ := HV7.out.cells 4 rfl
           have dl := HV7.out.room.1
           clear hq hp7 he7
           go_wp2_with fail
           go_meet
           case rel => exact ⟨2, s, m, r7, by simp only [kindF, HQ4.out, HQ5.out, HQ6.out, HQ7.out, bindR], HV7.out.set 4 (.int .i64 m)⟩
     case rest =>
      obtain ⟨kk, s, vv, r4, hk4, hv⟩ := hcut
      have HK := Lib.hid hk4
      have HW := Lib.hid hv
      have hlen4 : r4.length < n := by have := (kind_sane n).ok _ _ _ hlen3 hk4; omega
      clear hk4 hv HV4 HQ4
      go_upto_region 10 with fail
      go_cut [38] from 4 (fun s38 wc => ∃ (bb : Bool) (r' : List Tok), s38 = .bool bb ∧ (bb = true → takeF [[105, 102]] r4 = (some 0, r')) ∧ (bb = false → takeF [[105, 102]] r4 = (none, r4) ∧ r' = r4) ∧ PV w wc p fin r' [vs id, .int .i64 (1 + i : Nat), .int .i64 (kk : Nat), vs s, .int .i64 (vv : Nat), .int .i64 1, .string ⟨#[]⟩, .int .i64 0, .int .i64 0, .slice none 0 0, .slice none 0 0, .int .i64 0, .string ⟨#[]⟩, .int .i64 0, .slice none 0 0, .int .i64 0, .string ⟨#[]⟩, .int .i64 0, .slice none 0 0, .int .i64 0, .string ⟨#[]⟩, .int .i64 0, .slice none 0 0] (fun _ => True))
      case first =>
       go_wp2_with fail
       refine take_out [[105, 102]] _ 1 rfl 1 p fin r4 _ (HW.out.alloc (.cells #[vs [105, 102]] 9 (0, 0))).ps (RdS.new (alloc_at (by simp))) (by omega) ?_ ?_
       case refine_1 =>
        intro w5 ht hp5 he5
        have HT := Lib.hid ht
        have HV5 := Lib.hid ((HW.out.alloc _).call he5 hp5)
        clear ht hp5 he5
        go_wp2_with fail
        go_meet
        case rel => exact ⟨false, r4, rfl, fun h => (by cases h), fun _ => ⟨HT.out, rfl⟩, HV5.out⟩
       case refine_2 =>
        intro i5 r5 w5 ht hi5 hr5 hp5 he5
        have HT := Lib.hid ht
        have HV5 := Lib.hid ((HW.out.alloc _).call he5 hp5)
        obtain rfl : i5 = 0 := by omega
        clear ht hp5 he5
        go_wp2_with fail
        go_meet
        case rel => exact ⟨true, r5, rfl, fun _ => HT.out, fun h => (by cases h), HV5.out⟩
      case rest =>
       obtain ⟨bb, r4', rfl, ht1, ht2, hv⟩ := hcut
       have HT1 := Lib.hid ht1
       have HT2 := Lib.hid ht2
       have HW4 := Lib.hid hv
       clear ht1 ht2 hv HW
       go_upto_if 38 with fail
       go_cut [] from 4 (fun wc => ∃ (o1 : Nat) (n1 : List UInt8) (c1 m1 : Nat) (ks1 : List Tree) (A1 : Option Addr) (cap1 : Nat) (r5 : List Tok), ifF n r4 = .ok (.mk o1 n1 c1 m1 ks1, r5) ∧ PV w wc p fin r5 [vs id, .int .i64 (1 + i : Nat), .int .i64 (kk : Nat), vs s, .int .i64 (vv : Nat), .int .i64 (o1 : Nat), vs n1, .int .i64 (c1 : Nat), .int .i64 (m1 : Nat), .slice A1 ks1.length cap1, .slice none 0 0, .int .i64 0, .string ⟨#[]⟩, .int .i64 0, .slice none 0 0, .int .i64 0, .string ⟨#[]⟩, .int .i64 0, .slice none 0 0, .int .i64 0, .string ⟨#[]⟩, .int .i64 0, .slice none 0 0] (fun W => True ∧ RdTree true (fun k => w.heap.size + 2 ≤ k) W (tcs true o1 n1 c1 m1 (.slice A1 ks1.length cap1)) (.mk o1 n1 c1 m1 ks1)))
       case first =>
        cases bb with
        | false =>
          have ht := (HT2.out rfl).1
          obtain rfl := (HT2.out rfl).2
          have HT := Lib.hid ht
          clear ht HT1 HT2
          go_wp2_with fail
          go_meet
          case rel => exact ⟨1, [], 0, 0, [], none, 0, r4', by simp only [ifF, optF, HT.out], HW4.out.and Stab.tree (RdTree.leaf 1 [] 0 0 none 0)⟩
        | true =>
          have HT := Lib.hid (HT1.out rfl)
          have hlen5 : r4'.length < n := by
           rcases takeF_cases [[105, 102]] r4 with h | ⟨t, r, i, rfl, h, -, -⟩
           · rw [HT.out] at h; cases h
           · rw [HT.out] at h; cases h; simp at hlen4; omega
          clear HT1 HT2
          go_wp2_with fail
          refine calls_out (bounded_f 83 (condF n) n p fin (condF_any n hn) (condF_size n) reads_enters_f r4' _ HW4.out.ps hlen5 hn) ?_ ?_
          case refine_2 =>
           intro c s wE hq heE
           have HQE := Lib.hid hq
           clear hq
           go_wp2_with fail
           refine ⟨rfl, ?_⟩
           rw [show endF (provF n l) = .error (c, s) by simp only [endF, provF, bodyF, ifF, optF, HQ1.out, HQ2.out, HQ3.out, HK.out, HT.out, HQE.out, bindR]]
           exact ⟨rfl, HW4.out.eff.trans heE⟩
          case refine_1 =>
           intro t r5 v w6 hq hv hp6 he6
           obtain ⟨cs, rfl, hrt⟩ := hv
           have HRT := Lib.hid hrt
           obtain ⟨o1, n1, c1, m1, ks1⟩ := t
           obtain ⟨A1, cap1, rfl, -, -⟩ := hrt
           simp only [tcs]
           have HQ6 := Lib.hid hq
           have HV6 := Lib.hid (HW4.out.call he6 hp6)
           have hbase : w.heap.size + 2 ≤ wc.heap.size := HW4.out.room.1
           obtain ⟨e5, g5⟩ := HV6.out.cells 5 rfl
           obtain ⟨e6, g6⟩ := HV6.out.cells 6 rfl
           obtain ⟨e7, g7⟩ := HV6.out.cells 7 rfl
           obtain ⟨e8, g8⟩ := HV6.out.cells 8 rfl
           obtain ⟨e9, g9⟩ := HV6.out.cells 9 rfl
           have dl := HV6.out.room.1
           clear hq hp6 he6
           go_wp2_with fail
           go_meet
           case rel =>
            refine ⟨o1, n1, c1, m1, ks1, A1, cap1, r5, by simp only [ifF, optF, HT.out, HQ6.out], ?_⟩
            exact ((((HV6.out.and Stab.tree (HRT.out.keep (Nat.le_refl _) (fun b hb _ => ⟨by omega, rfl⟩))).set 5 (.int .i64 o1)).set 6 (vs n1)).set 7 (.int .i64 c1)).set 8 (.int .i64 m1) |>.set 9 (.slice A1 ks1.length cap1)
       case rest =>
        obtain ⟨o1, n1, c1, m1, ks1, A1, cap1, r5, hk5, hv⟩ := hcut
        have HK5 := Lib.hid hk5
        have HW5 := Lib.hid hv
        have hlen5 : r5.length < n := by have := (if_sane n).ok _ _ _ hlen4 hk5; omega
        clear hk5 hv HW4 HT1 HT2
        go_upto_region 12 with fail
        go_cut [47] from 4 (fun s47 wc => ∃ (bb : Bool) (r' : List Tok), s47 = .bool bb ∧ (bb = true → takeF [[110, 111, 116, 119, 105, 116, 104, 115, 116, 97, 110, 100, 105, 110, 103]] r5 = (some 0, r')) ∧ (bb = false → takeF [[110, 111, 116, 119, 105, 116, 104, 115, 116, 97, 110, 100, 105, 110, 103]] r5 = (none, r5) ∧ r' = r5) ∧ PV w wc p fin r' [vs id, .int .i64 (1 + i : Nat), .int .i64 (kk : Nat), vs s, .int .i64 (vv : Nat), .int .i64 (o1 : Nat), vs n1, .int .i64 (c1 : Nat), .int .i64 (m1 : Nat), .slice A1 ks1.length cap1, .slice none 0 0, .int .i64 0, .string ⟨#[]⟩, .int .i64 0, .slice none 0 0, .int .i64 0, .string ⟨#[]⟩, .int .i64 0, .slice none 0 0, .int .i64 0, .string ⟨#[]⟩, .int .i64 0, .slice none 0 0] (fun W => True ∧ RdTree true (fun k => w.heap.size + 2 ≤ k) W (tcs true o1 n1 c1 m1 (.slice A1 ks1.length cap1)) (.mk o1 n1 c1 m1 ks1)))
        case first =>
         go_wp2_with fail
         refine take_out [[110, 111, 116, 119, 105, 116, 104, 115, 116, 97, 110, 100, 105, 110, 103]] _ 1 rfl 1 p fin r5 _ (HW5.out.alloc (.cells #[vs [110, 111, 116, 119, 105, 116, 104, 115, 116, 97, 110, 100, 105, 110, 103]] 9 (0, 0))).ps (RdS.new (alloc_at (by simp))) (by omega) ?_ ?_
         case refine_1 =>
          intro w6 ht hp6 he6
          have HT := Lib.hid ht
          have HV6 := Lib.hid ((HW5.out.alloc _).call he6 hp6)
          clear ht hp6 he6
          go_wp2_with fail
          go_meet
          case rel => exact ⟨false, r5, rfl, fun h => (by cases h), fun _ => ⟨HT.out, rfl⟩, HV6.out⟩
         case refine_2 =>
          intro i6 r6 w6 ht hi6 hr6 hp6 he6
          have HT := Lib.hid ht
          have HV6 := Lib.hid ((HW5.out.alloc _).call he6 hp6)
          obtain rfl : i6 = 0 := by omega
          clear ht hp6 he6
          go_wp2_with fail
          go_meet
          case rel => exact ⟨true, r6, rfl, fun _ => HT.out, fun h => (by cases h), HV6.out⟩
        case rest =>
         obtain ⟨bb, r5', rfl, ht1, ht2, hv⟩ := hcut
         have HT1 := Lib.hid ht1
         have HT2 := Lib.hid ht2
         have HW5' := Lib.hid hv
         clear ht1 ht2 hv HW5
         go_upto_if 47 with fail
         go_cut [] from 4 (fun wc => ∃ (exc : List (List UInt8)) (A2 : Option Addr) (cap2 : Nat) (r6 : List Tok), excF r5 = .ok (exc, r6) ∧ exc.length ≤ cap2 ∧ PV w wc p fin r6 [vs id, .int .i64 (1 + i : Nat), .int .i64 (kk : Nat), vs s, .int .i64 (vv : Nat), .int .i64 (o1 : Nat), vs n1, .int .i64 (c1 : Nat), .int .i64 (m1 : Nat), .slice A1 ks1.length cap1, .slice A2 exc.length cap2, .int .i64 0, .string ⟨#[]⟩, .int .i64 0, .slice none 0 0, .int .i64 0, .string ⟨#[]⟩, .int .i64 0, .slice none 0 0, .int .i64 0, .string ⟨#[]⟩, .int .i64 0, .slice none 0 0] (fun W => (True ∧ RdTree true (fun k => w.heap.size + 2 ≤ k) W (tcs true o1 n1 c1 m1 (.slice A1 ks1.length cap1)) (.mk o1 n1 c1 m1 ks1)) ∧ RdE (w.heap.size + 2) A2 exc W))
         case first =>
          cases bb with
          | false =>
            have ht := (HT2.out rfl).1
            obtain rfl := (HT2.out rfl).2
            have HT := Lib.hid ht
            clear ht HT1 HT2
            go_wp2_with fail
            go_meet
            case rel => exact ⟨[], none, 0, r5', by simp only [excF, optF, HT.out], Nat.le_refl _, HW5'.out.and Stab.exc ⟨Sl.nil, fun b o e => by cases e⟩⟩
          | true =>
            have HT := Lib.hid (HT1.out rfl)
            clear HT1 HT2
            go_wp2_with fail
            refine calls_out (except_any p fin r5' _ HW5'.out.ps) ?_ ?_
            case refine_2 =>
             intro c s wE hq heE
             have HQE := Lib.hid hq
             clear hq
             go_wp2_with fail
             refine ⟨rfl, ?_⟩
             rw [show endF (provF n l) = .error (c, s) by simp only [endF, provF, bodyF, excF, optF, HQ1.out, HQ2.out, HQ3.out, HK.out, HK5.out, HT.out, HQE.out, bindR]]
             exact ⟨rfl, HW5'.out.eff.trans heE⟩
            case refine_1 =>
             intro exc r6 v w7 hq hv hp7 he7
             obtain ⟨A2, cap2, rfl, hcap, hrd, hA⟩ := hv
             have HQ7 := Lib.hid hq
             have HV7 := Lib.hid (HW5'.out.call he7 hp7)
             have HRD := Lib.hid hrd
             have HA := Lib.hid hA
             have hbase : w.heap.size + 2 ≤ wc.heap.size := HW5'.out.room.1
             obtain ⟨e10, g10⟩ := HV7.out.cells 10 rfl
             have dl := HV7.out.room.1
             clear hq hp7 he7 hrd hA
             go_wp2_with fail
             go_meet
             case rel =>
              refine ⟨exc, A2, cap2, r6, by simp only [excF, optF, HT.out, HQ7.out], hcap, ?_⟩
              exact (HV7.out.and Stab.exc ⟨HRD.out, fun b o e => ⟨by have := (HA.out b o e).1; omega, (HA.out b o e).2⟩⟩).set 10 (.slice A2 exc.length cap2)
         case rest =>
          obtain ⟨exc, A2, cap2, r6, hk6, hcap2, hv⟩ := hcut
          have HK6 := Lib.hid hk6
          have HW6 := Lib.hid hv
          have hlen6 : r6.length < n := by have := (exc_sane n).ok _ _ _ hlen5 hk6; omega
          clear hk6 hv HW5' HT1 HT2
          go_wp2_with fail
          refine calls_out (when_any [102, 114, 111, 109] 1 n p fin r6 _ HW6.out.ps (by omega) hn) ?_ ?_
          case refine_2 =>
           intro c s wE hq heE
           have HQE := Lib.hid hq
           clear hq
           go_wp2_with fail
           refine ⟨rfl, ?_⟩
           rw [show endF (provF n l) = .error (c, s) by simp only [endF, provF, bodyF, HQ1.out, HQ2.out, HQ3.out, HK.out, HK5.out, HK6.out, HQE.out, bindR]]
           exact ⟨rfl, HW6.out.eff.trans heE⟩
          case refine_1 =>
           intro t r7 v w11 hq hv hp11 he11
           obtain ⟨cs, rfl, hrt⟩ := hv
           have HRTB := Lib.hid hrt
           obtain ⟨oB, nB, cB, mB, ksB⟩ := t
           obtain ⟨AB, capB, rfl, -, -⟩ := hrt
           simp only [tcs]
           have HWB := Lib.hid hq
           have hlen7 : r7.length < n := by have := (when_sane n [102, 114, 111, 109] 1).ok _ _ _ (by omega) hq; omega
           have hroom := HW6.out.room.1
           have HV11 := Lib.hid ((HW6.out.call he11 hp11).and Stab.tree (HRTB.out.keep (Nat.le_refl _) (fun b hb _ => ⟨by omega, rfl⟩)))
           clear hq hp11 he11 hroom
           go_wp2_with fail
           refine calls_out (when_any [117, 110, 116, 105, 108] 2 n p fin r7 _ HV11.out.ps (by omega) hn) ?_ ?_
           case refine_2 =>
            intro c s wE hq heE
            have HQE := Lib.hid hq
            clear hq
            go_wp2_with fail
            refine ⟨rfl, ?_⟩
            rw [show endF (provF n l) = .error (c, s) by simp only [endF, provF, bodyF, HQ1.out, HQ2.out, HQ3.out, HK.out, HK5.out, HK6.out, HWB.out, HQE.out, bindR]]
            exact ⟨rfl, HV11.out.eff.trans heE⟩
           case refine_1 =>
            intro t r8 v w12 hq hv hp12 he12
            obtain ⟨cs, rfl, hrt⟩ := hv
            have HRTD := Lib.hid hrt
            obtain ⟨oD, nD, cD, mD, ksD⟩ := t
            obtain ⟨AD, capD, rfl, -, -⟩ := hrt
            simp only [tcs]
            have HWD := Lib.hid hq
            have hlen8 : r8.length < n := by have := (when_sane n [117, 110, 116, 105, 108] 2).ok _ _ _ (by omega) hq; omega
            have hroom := HV11.out.room.1
            have HV12 := Lib.hid ((HV11.out.call he12 hp12).and Stab.tree (HRTD.out.keep (Nat.le_refl _) (fun b hb _ => ⟨by omega, rfl⟩)))
            clear hq hp12 he12 hroom
            go_wp2_with fail
            refine calls_out (when_any [97, 103, 97, 105, 110] 2 n p fin r8 _ HV12.out.ps (by omega) hn) ?_ ?_
            case refine_2 =>
             intro c s wE hq heE
             have HQE := Lib.hid hq
             clear hq
             go_wp2_with fail
             refine ⟨rfl, ?_⟩
             rw [show endF (provF n l) = .error (c, s) by simp only [endF, provF, bodyF, HQ1.out, HQ2.out, HQ3.out, HK.out, HK5.out, HK6.out, HWB.out, HWD.out, HQE.out, bindR]]
             exact ⟨rfl, HV12.out.eff.trans heE⟩
            case refine_1 =>
             intro t r9 v w13 hq hv hp13 he13
             obtain ⟨cs, rfl, hrt⟩ := hv
             have HRTG := Lib.hid hrt
             obtain ⟨oG, nG, cG, mG, ksG⟩ := t
             obtain ⟨AG, capG, rfl, -, -⟩ := hrt
             simp only [tcs]
             have HWG := Lib.hid hq
             have hlen9 : r9.length < n := by have := (when_sane n [97, 103, 97, 105, 110] 2).ok _ _ _ (by omega) hq; omega
             have hroom := HV12.out.room.1
             have HV13 := Lib.hid ((HV12.out.call he13 hp13).and Stab.tree (HRTG.out.keep (Nat.le_refl _) (fun b hb _ => ⟨by omega, rfl⟩)))
             clear hq hp13 he13 hroom

             obtain ⟨e11, g11⟩ := HV13.out.cells 11 rfl
             obtain ⟨e12, g12⟩ := HV13.out.cells 12 rfl
             obtain ⟨e13, g13⟩ := HV13.out.cells 13 rfl
             obtain ⟨e14, g14⟩ := HV13.out.cells 14 rfl
             obtain ⟨e15, g15⟩ := HV13.out.cells 15 rfl
             obtain ⟨e16, g16⟩ := HV13.out.cells 16 rfl
             obtain ⟨e17, g17⟩ := HV13.out.cells 17 rfl
             obtain ⟨e18, g18⟩ := HV13.out.cells 18 rfl
             obtain ⟨e19, g19⟩ := HV13.out.cells 19 rfl
             obtain ⟨e20, g20⟩ := HV13.out.cells 20 rfl
             obtain ⟨e21, g21⟩ := HV13.out.cells 21 rfl
             obtain ⟨e22, g22⟩ := HV13.out.cells 22 rfl
             have dl := HV13.out.room.1
             go_wp2_with fail
             have HS := Lib.hid (((((((((((((HV13.out.set 11 (.int .i64 oB)).set 12 (vs nB)).set 13 (.int .i64 mB)).set 14 (.slice AB ksB.length capB)).set 15 (.int .i64 oD)).set 16 (vs nD)).set 17 (.int .i64 mD)).set 18 (.slice AD ksD.length capD)).set 19 (.int .i64 oG)).set 20 (vs nG)).set 21 (.int .i64 mG)).set 22 (.slice AG ksG.length capG)).alloc (.cells #[vs [46]] 9 (0, 0)))
             refine must_out [[46]] _ 1 rfl 1 p fin r9 _ HS.out.ps (RdS.new (alloc_at (by simp))) (by omega) ?_ ?_
             case refine_2 =>
              intro c s wE hq heE
              have HQE := Lib.hid hq
              clear hq
              go_wp2_with fail
              refine ⟨rfl, ?_⟩
              rw [show endF (provF n l) = .error (c, s) by simp only [endF, provF, bodyF, HQ1.out, HQ2.out, HQ3.out, HK.out, HK5.out, HK6.out, HWB.out, HWD.out, HWG.out, HQE.out, bindR]]
              exact ⟨rfl, HS.out.eff.trans heE⟩
             case refine_1 =>
              intro i14 r14 w14 hq hi14 hr14 hp14 he14
              have HQ14 := Lib.hid hq
              have HV14 := Lib.hid (HS.out.call he14 hp14)
              have dl14 := HV14.out.room.1
              clear hq hp14 he14 HS HV13 HV12 HV11 HW6
              obtain ⟨A, c, hh, -⟩ := HV14.out.ps.is
              have c0 := cell_of_blk (o := 0) hh rfl
              have hlt := lt_of_heap' hh
              clear hh
              cases r14 with
              | cons t r15 =>
                simp only [List.length_cons] at c0
                have y1 : (0 : Int) < (r15.length : Int) + 1 := by omega
                go_wp2_with fail
                refine (fail_any p fin _ _ HV14.out.ps).mono ?_
                rintro e w15 ⟨rfl, hb15⟩
                go_wp2_with fail
                refine ⟨rfl, ?_⟩
                rw [show endF (provF n l) = .error (failC (t :: r15), t :: r15) by simp only [endF, provF, bodyF, HQ1.out, HQ2.out, HQ3.out, HK.out, HK5.out, HK6.out, HWB.out, HWD.out, HWG.out, HQ14.out, bindR, failR]]
                exact ⟨rfl, HV14.out.eff.trans (Eff.of_below hb15)⟩
              | nil =>
                simp only [List.length_nil] at c0
                have hb1 := HV14.out.out
                have hb0 := HV14.out.res
                go_wp2_with fail
                rw [rowStore_cells _ _ _ _ _ (by rfl) (by rfl) (by rfl)]
                have hfin := prov_fin (P := ⟨id, 1 + i, kk, s, vv, .mk o1 n1 c1 m1 ks1, exc, .mk oB nB cB mB ksB, .mk oD nD cD mD ksD, .mk oG nG cG mG ksG⟩) (C := [vs id, .int .i64 (1 + i : Nat), .int .i64 kk, vs s, .int .i64 vv, .int .i64 o1, vs n1, .int .i64 c1, .int .i64 m1, .slice A1 ks1.length cap1, .slice A2 exc.length cap2, .int .i64 oB, vs nB, .int .i64 mB, .slice AB ksB.length capB, .int .i64 oD, vs nD, .int .i64 mD, .slice AD ksD.length capD, .int .i64 oG, vs nG, .int .i64 mG, .slice AG ksG.length capG]) (res := endF (provF n l)) HV14.out (fun W hM => by
                 obtain ⟨⟨⟨⟨⟨-, h1⟩, h2⟩, h3⟩, h4⟩, h5⟩ := hM
                 exact ⟨_, A2, cap2, _, _, _, rfl, hcap2, h1, h2, h3, h4, h5⟩) (by simp only [endF, provF, bodyF, HQ1.out, HQ2.out, HQ3.out, HK.out, HK5.out, HK6.out, HWB.out, HWD.out, HWG.out, HQ14.out, bindR])
                have HFIN := Lib.hid hfin
                have hsr : (w14.setRow w.heap.size [vs id, .int .i64 (1 + i : Nat), .int .i64 kk, vs s, .int .i64 vv, .int .i64 o1, vs n1, .int .i64 c1, .int .i64 m1, .slice A1 ks1.length cap1, .slice A2 exc.length cap2, .int .i64 oB, vs nB, .int .i64 mB, .slice AB ksB.length capB, .int .i64 oD, vs nD, .int .i64 mD, .slice AD ksD.length capD, .int .i64 oG, vs nG, .int .i64 mG, .slice AG ksG.length capG].toArray).blk w.heap.size = some (.cells [vs id, .int .i64 (1 + i : Nat), .int .i64 kk, vs s, .int .i64 vv, .int .i64 o1, vs n1, .int .i64 c1, .int .i64 m1, .slice A1 ks1.length cap1, .slice A2 exc.length cap2, .int .i64 oB, vs nB, .int .i64 mB, .slice AB ksB.length capB, .int .i64 oD, vs nD, .int .i64 mD, .slice AD ksD.length capD, .int .i64 oG, vs nG, .int .i64 mG, .slice AG ksG.length capG].toArray 30 (0, 0)) := blk_setRow_at hb0
                have HSR := Lib.hid hsr
                clear hfin hsr
                go_wp2_with fail
                refine bodyPost_ret (v := .agg [vs id, .int .i64 (1 + i : Nat), .int .i64 kk, vs s, .int .i64 vv, .int .i64 o1, vs n1, .int .i64 c1, .int .i64 m1, .slice A1 ks1.length cap1, .slice A2 exc.length cap2, .int .i64 oB, vs nB, .int .i64 mB, .slice AB ksB.length capB, .int .i64 oD, vs nD, .int .i64 mD, .slice AD ksD.length capD, .int .i64 oG, vs nG, .int .i64 mG, .slice AG ksG.length capG].toArray) ?_ rfl HFIN.out
                exact results_cell_row Tryz.results54 _ _ w.heap.size 30 _ (0, 0) _ (by rfl) HSR.out Tryz.underlying30 rfl (by kernel_rfl)
end Go.Proofs.YtbicmjmcdnkjhaaGreatDoor
