/- bounded's closure: it measures a condition; by induction on the size. -/
import Derived.Test.YtpagkakplmeokaaDoorNSize
set_option linter.unusedVariables false
set_option linter.unusedSimpArgs false
namespace Go.Proofs.YtpagkakplmeokaaDoor
open Go.RowKit
theorem mk_size_add (op : Nat) (name : List UInt8) (cm m : Nat) (ks : List Tree) (s : Nat) : s + (Tree.mk op name cm m ks).size = s + 1 + sizes ks := by simp only [Tree.size]; omega
theorem mk_deep_ret (op : Nat) (name : List UInt8) (cm m : Nat) (ks : List Tree) : Ending.returned (.int .i64 ((deeps ks : Int) + 1)) = .returned (.int .i64 ((Tree.mk op name cm m ks).deep : Int)) := by simp [Tree.deep]
theorem max_cast (a b : Nat) : max (a : Int) (b : Int) = ((max a b : Nat) : Int) := by omega
theorem wrap64_nat {k : Nat} (h : k < 9000000) : wrap64 ((k : Int) + 1) = ((k + 1 : Nat) : Int) := by unfold wrap64; omega
structure KidsT (fm : Bool) (f : FuncId) : Prop where
  go : ∀ op name cmp n A m c w, Calls Tryd.prog f #[.agg (tcs fm op name cmp n (.slice A m c)).toArray] w fun e w' => e = .returned (.slice A m c) ∧ Below w.heap.size w w'
/- the boxes of the closure -/
structure Boxes (w : World) (fk fd : FuncId) (sb kb db s : Nat) : Prop where
  size : ∃ ty, w.heap[sb]? = some (.cells #[.int .i64 s] ty (0, 0))
  kids : ∃ ty, w.heap[kb]? = some (.cells #[.func (.func fk) #[] #[]] ty (0, 0))
  deep : ∃ ty, w.heap[db]? = some (.cells #[.func (.func fd) #[] #[.pointer (some ⟨sb, 0, none⟩), .pointer (some ⟨kb, 0, none⟩), .pointer (some ⟨db, 0, none⟩)]] ty (0, 0))
  nk : kb ≠ sb
  nd : db ≠ sb
theorem Boxes.grow {w w' : World} {fk fd : FuncId} {sb kb db s : Nat} (h : Boxes w fk fd sb kb db s) (hb : Below w.heap.size w w') : Boxes w' fk fd sb kb db s := by
  obtain ⟨⟨t1, h1⟩, ⟨t2, h2⟩, ⟨t3, h3⟩, h4, h5⟩ := h
  exact ⟨⟨t1, (hb.block _ (lt_of_heap' h1)).trans h1⟩, ⟨t2, (hb.block _ (lt_of_heap' h2)).trans h2⟩, ⟨t3, (hb.block _ (lt_of_heap' h3)).trans h3⟩, h4, h5⟩
theorem Boxes.put {w : World} {fk fd : FuncId} {sb kb db s : Nat} (h : Boxes w fk fd sb kb db s) {i : Int} {v : Nat} (hi : i = v) : Boxes (w.setCell ⟨sb, 0, none⟩ (.int .i64 i)) fk fd sb kb db v := by
  subst hi
  obtain ⟨⟨t1, h1⟩, ⟨t2, h2⟩, ⟨t3, h3⟩, h4, h5⟩ := h
  exact ⟨⟨t1, row_setCell h1⟩, ⟨t2, (Below.heap_setCell _ _ _ _ (by simpa using h4)).trans h2⟩, ⟨t3, (Below.heap_setCell _ _ _ _ (by simpa using h5)).trans h3⟩, h4, h5⟩
def Meas (sb : Nat) (w : World) (fk fd : FuncId) (kb db s : Nat) (t : Tree) (e : Ending) (w' : World) : Prop :=
  e = .returned (.int .i64 t.deep) ∧ Boxes w' fk fd sb kb db (s + t.size) ∧ Eff sb w w'
set_option maxRecDepth 20000 in
set_option maxHeartbeats 800000 in
theorem deep_f (fk : FuncId) (hk : KidsT true fk) (hek : Enters fk) (sb kb db : Nat) : ∀ (N : Nat) (t : Tree) (s : Nat) (cs : List Value) (w : World), t.size ≤ N → t.size + s ≤ 1000000 → Boxes w fk 56 sb kb db s → RdTree true (fun k => k ≠ sb) w cs t →
    Calls Tryd.prog 56 #[.agg cs.toArray, .pointer (some ⟨sb, 0, none⟩), .pointer (some ⟨kb, 0, none⟩), .pointer (some ⟨db, 0, none⟩)] w (Meas sb w fk 56 kb db s t) := by
  intro N
  induction N with
  | zero =>
    intro t s cs w hN
    cases t
    simp [Tree.size] at hN
  | succ N ih =>
    intro t s cs w hN hs hbx hrt
    have IH := Lib.hid ih
    have HK := Lib.hid hk
    have HEK := Lib.hid hek
    have HBX := Lib.hid hbx
    have HRT := Lib.hid hrt
    obtain ⟨op, name, cm, m, ks⟩ := t
    obtain ⟨A, cap, rfl, hcap, hkids⟩ := hrt
    have HKIDS := Lib.hid hkids
    simp only [Tree.size] at hN hs
    simp only [tcs]
    obtain ⟨⟨t1, hb1⟩, ⟨t2, hb2⟩, ⟨t3, hb3⟩, n1, n2⟩ := hbx
    have c1 := cell_of_blk (o := 0) hb1 rfl
    have g1 := frozen_of_blk (o := 0) hb1
    have l1 := lt_of_heap' hb1
    have c2 := cell_of_blk (o := 0) hb2 rfl
    have l2 := lt_of_heap' hb2
    have c3 := cell_of_blk (o := 0) hb3 rfl
    have l3 := lt_of_heap' hb3
    clear ih hk hek hkids hb1 hb2 hb3 hcap
    go_enter Tryd.func56, Tryd.ntmps56
    go_wp2_with fail
    have HX1 := Lib.hid ((HBX.out.put (i := (s : Int) + 1) (v := s + 1) (by simp)).grow ((Below.refl _ _).alloc (Nat.le_refl _) (.cells (tcs true op name cm m (.slice A ks.length cap)).toArray 29 (0, 0))))
    have HE1 := Lib.hid (((Eff.refl sb w).setCell ⟨sb, 0, none⟩ (.inl rfl) (.int .i64 ((s : Int) + 1))).alloc (.cells (tcs true op name cm m (.slice A ks.length cap)).toArray 29 (0, 0)))
    rw [HEK.out, Oper.upon_enter]
    refine (HK.out.go op name cm m A ks.length cap _).mono ?_
    rintro e w2 ⟨rfl, hb2⟩
    have HX2 := Lib.hid (HX1.out.grow hb2)
    have HE2 := Lib.hid (HE1.out.trans (Eff.of_below hb2))
    clear c1 g1 c2 c3 hb2 HX1 HE1
    go_wp2_with fail
    go_loopw [6, 15] (fun v6 v15 wr => ∃ k : Nat, k ≤ ks.length ∧ v15 = .int .i64 k ∧ v6 = .int .i64 (deeps (ks.take k)) ∧ Boxes wr fk 56 sb kb db (s + 1 + sizes (ks.take k)) ∧ Eff sb w wr) (fun v6 v15 _ => ks.length - (intOf v15).toNat)
    case atStart => exact ⟨0, Nat.zero_le _, rfl, rfl, HX2.out, HE2.out⟩
    case round =>
      obtain ⟨k, hkl, rfl, rfl, hbx, hef⟩ := hrel
      have hsz := sizes_take_le ks k
      have hdz := deeps_le_sizes (ks.take k)
      have HBXR := Lib.hid hbx
      have HEFR := Lib.hid hef
      obtain ⟨⟨t1, hb1⟩, ⟨t2, hb2⟩, ⟨t3, hb3⟩, -, -⟩ := hbx
      have c1 := cell_of_blk (o := 0) hb1 rfl
      have l1' := lt_of_heap' hb1
      have c3 := cell_of_blk (o := 0) hb3 rfl
      have l3' := lt_of_heap' hb3
      clear hb1 hb2 hb3 hef HX2 HE2
      by_cases hlt : k < ks.length
      · obtain ⟨t, ht⟩ := get_of_lt hlt
        have HT := Lib.hid ht
        have hst := sizes_take ht
        have hst2 := sizes_take_le ks (k + 1)
        have hdt := deep_le_size t
        obtain h0 | ⟨b, off, rfl, hbs, hbl, hkd⟩ := HKIDS.out
        · rw [h0] at hlt; simp at hlt
        obtain ⟨cs, hcs, hrt⟩ := (hkd.keep HEFR.out.size (fun b hb hlt => ⟨hb, HEFR.out.block b hlt hb⟩) (HEFR.out.block b hbl hbs)).get ht
        have HRTK := Lib.hid hrt
        obtain ⟨op', nm', cm', m', ks'⟩ := t
        obtain ⟨A', cap', rfl, -, -⟩ := hrt
        have e0 : wr.cell? ⟨b, off + k * 5, none⟩ = some (.int .i64 op') := hcs 0 _ rfl
        have e1 : wr.cell? ⟨b, off + k * 5 + 1, none⟩ = some (vs nm') := hcs 1 _ rfl
        have e2 : wr.cell? ⟨b, off + k * 5 + 2, none⟩ = some (.int .i64 cm') := hcs 2 _ rfl
        have e3 : wr.cell? ⟨b, off + k * 5 + 3, none⟩ = some (.int .i64 m') := hcs 3 _ rfl
        have e4 : wr.cell? ⟨b, off + k * 5 + 4, none⟩ = some (.slice A' ks'.length cap') := hcs 4 _ rfl
        have hk1 : (k : Int) < ks.length := by omega
        clear ht hkd hcs
        go_wp2_with fail
        refine (IH.out (.mk op' nm' cm' m' ks') (s + 1 + sizes (ks.take k)) (tcs true op' nm' cm' m' (.slice A' ks'.length cap')) _ (by omega) (by omega) (HBXR.out.grow ((Below.refl _ _).alloc (Nat.le_refl _) _)) (HRTK.out.keep (by simp) (fun b hb hlt => ⟨hb, Below.heap_alloc _ _ _ hlt⟩))).mono ?_
        rintro e w3 ⟨rfl, hbx3, he3⟩
        have HBX3 := Lib.hid hbx3
        have HE3 := Lib.hid he3
        have HST := Lib.hid hst
        have HDT := Lib.hid (deeps_take HT.out)
        clear hbx3 he3 hst hsz hst2 c1 c3
        go_wp2_with fail
        have hln := len_le_sizes ks
        have hwk := wrap64_nat (k := k) (by omega)
        have hk2 : k + 1 ≤ ks.length := hlt
        have hmx : (Value.int .i64 (max (deeps (ks.take k) : Int) ((Tree.mk op' nm' cm' m' ks').deep : Int))) = .int .i64 (deeps (ks.take (k + 1)) : Int) := by rw [HDT.out, max_cast]
        rw [hwk]
        refine ⟨⟨k + 1, hk2, rfl, hmx, ?_, ?_⟩, ?_⟩
        · rw [HST.out, ← Nat.add_assoc (s + 1)]; exact HBX3.out
        · exact HEFR.out.trans ((eff_alloc sb _ _).trans HE3.out)
        · exact Nat.sub_lt_sub_left hlt (Nat.lt_succ_self k)
      · have : k = ks.length := by omega
        subst this
        have hdk := deeps_le_sizes ks
        simp only [List.take_length] at HBXR ⊢
        go_wp2_with fail
        go_ret
        exact ⟨mk_deep_ret op name cm m ks, by rw [mk_size_add]; exact HBXR.out, HEFR.out⟩
set_option maxRecDepth 20000 in
set_option maxHeartbeats 800000 in
theorem deep_s (fk : FuncId) (hk : KidsT false fk) (hek : Enters fk) (sb kb db : Nat) : ∀ (N : Nat) (t : Tree) (s : Nat) (cs : List Value) (w : World), t.size ≤ N → t.size + s ≤ 1000000 → Boxes w fk 74 sb kb db s → RdTree false (fun k => k ≠ sb) w cs t →
    Calls Tryd.prog 74 #[.agg cs.toArray, .pointer (some ⟨sb, 0, none⟩), .pointer (some ⟨kb, 0, none⟩), .pointer (some ⟨db, 0, none⟩)] w (Meas sb w fk 74 kb db s t) := by
  intro N
  induction N with
  | zero =>
    intro t s cs w hN
    cases t
    simp [Tree.size] at hN
  | succ N ih =>
    intro t s cs w hN hs hbx hrt
    have IH := Lib.hid ih
    have HK := Lib.hid hk
    have HEK := Lib.hid hek
    have HBX := Lib.hid hbx
    have HRT := Lib.hid hrt
    obtain ⟨op, name, cm, m, ks⟩ := t
    obtain ⟨A, cap, rfl, hcap, hkids⟩ := hrt
    have HKIDS := Lib.hid hkids
    simp only [Tree.size] at hN hs
    simp only [tcs]
    obtain ⟨⟨t1, hb1⟩, ⟨t2, hb2⟩, ⟨t3, hb3⟩, n1, n2⟩ := hbx
    have c1 := cell_of_blk (o := 0) hb1 rfl
    have g1 := frozen_of_blk (o := 0) hb1
    have l1 := lt_of_heap' hb1
    have c2 := cell_of_blk (o := 0) hb2 rfl
    have l2 := lt_of_heap' hb2
    have c3 := cell_of_blk (o := 0) hb3 rfl
    have l3 := lt_of_heap' hb3
    clear ih hk hek hkids hb1 hb2 hb3 hcap
    go_enter Tryd.func74, Tryd.ntmps74
    go_wp2_with fail
    have HX1 := Lib.hid ((HBX.out.put (i := (s : Int) + 1) (v := s + 1) (by simp)).grow ((Below.refl _ _).alloc (Nat.le_refl _) (.cells (tcs false op name cm m (.slice A ks.length cap)).toArray 33 (0, 0))))
    have HE1 := Lib.hid (((Eff.refl sb w).setCell ⟨sb, 0, none⟩ (.inl rfl) (.int .i64 ((s : Int) + 1))).alloc (.cells (tcs false op name cm m (.slice A ks.length cap)).toArray 33 (0, 0)))
    rw [HEK.out, Oper.upon_enter]
    refine (HK.out.go op name cm m A ks.length cap _).mono ?_
    rintro e w2 ⟨rfl, hb2⟩
    have HX2 := Lib.hid (HX1.out.grow hb2)
    have HE2 := Lib.hid (HE1.out.trans (Eff.of_below hb2))
    clear c1 g1 c2 c3 hb2 HX1 HE1
    go_wp2_with fail
    go_loopw [6, 15] (fun v6 v15 wr => ∃ k : Nat, k ≤ ks.length ∧ v15 = .int .i64 k ∧ v6 = .int .i64 (deeps (ks.take k)) ∧ Boxes wr fk 74 sb kb db (s + 1 + sizes (ks.take k)) ∧ Eff sb w wr) (fun v6 v15 _ => ks.length - (intOf v15).toNat)
    case atStart => exact ⟨0, Nat.zero_le _, rfl, rfl, HX2.out, HE2.out⟩
    case round =>
      obtain ⟨k, hkl, rfl, rfl, hbx, hef⟩ := hrel
      have hsz := sizes_take_le ks k
      have hdz := deeps_le_sizes (ks.take k)
      have HBXR := Lib.hid hbx
      have HEFR := Lib.hid hef
      obtain ⟨⟨t1, hb1⟩, ⟨t2, hb2⟩, ⟨t3, hb3⟩, -, -⟩ := hbx
      have c1 := cell_of_blk (o := 0) hb1 rfl
      have l1' := lt_of_heap' hb1
      have c3 := cell_of_blk (o := 0) hb3 rfl
      have l3' := lt_of_heap' hb3
      clear hb1 hb2 hb3 hef HX2 HE2
      by_cases hlt : k < ks.length
      · obtain ⟨t, ht⟩ := get_of_lt hlt
        have HT := Lib.hid ht
        have hst := sizes_take ht
        have hst2 := sizes_take_le ks (k + 1)
        have hdt := deep_le_size t
        obtain h0 | ⟨b, off, rfl, hbs, hbl, hkd⟩ := HKIDS.out
        · rw [h0] at hlt; simp at hlt
        obtain ⟨cs, hcs, hrt⟩ := (hkd.keep HEFR.out.size (fun b hb hlt => ⟨hb, HEFR.out.block b hlt hb⟩) (HEFR.out.block b hbl hbs)).get ht
        have HRTK := Lib.hid hrt
        obtain ⟨op', nm', cm', m', ks'⟩ := t
        obtain ⟨A', cap', rfl, -, -⟩ := hrt
        have e0 : wr.cell? ⟨b, off + k * 4, none⟩ = some (.int .i64 op') := hcs 0 _ rfl
        have e1 : wr.cell? ⟨b, off + k * 4 + 1, none⟩ = some (vs nm') := hcs 1 _ rfl
        have e2 : wr.cell? ⟨b, off + k * 4 + 2, none⟩ = some (.int .i64 m') := hcs 2 _ rfl
        have e3 : wr.cell? ⟨b, off + k * 4 + 3, none⟩ = some (.slice A' ks'.length cap') := hcs 3 _ rfl
        have hk1 : (k : Int) < ks.length := by omega
        clear ht hkd hcs
        go_wp2_with fail
        refine (IH.out (.mk op' nm' cm' m' ks') (s + 1 + sizes (ks.take k)) (tcs false op' nm' cm' m' (.slice A' ks'.length cap')) _ (by omega) (by omega) (HBXR.out.grow ((Below.refl _ _).alloc (Nat.le_refl _) _)) (HRTK.out.keep (by simp) (fun b hb hlt => ⟨hb, Below.heap_alloc _ _ _ hlt⟩))).mono ?_
        rintro e w3 ⟨rfl, hbx3, he3⟩
        have HBX3 := Lib.hid hbx3
        have HE3 := Lib.hid he3
        have HST := Lib.hid hst
        have HDT := Lib.hid (deeps_take HT.out)
        clear hbx3 he3 hst hsz hst2 c1 c3
        go_wp2_with fail
        have hln := len_le_sizes ks
        have hwk := wrap64_nat (k := k) (by omega)
        have hk2 : k + 1 ≤ ks.length := hlt
        have hmx : (Value.int .i64 (max (deeps (ks.take k) : Int) ((Tree.mk op' nm' cm' m' ks').deep : Int))) = .int .i64 (deeps (ks.take (k + 1)) : Int) := by rw [HDT.out, max_cast]
        rw [hwk]
        refine ⟨⟨k + 1, hk2, rfl, hmx, ?_, ?_⟩, ?_⟩
        · rw [HST.out, ← Nat.add_assoc (s + 1)]; exact HBX3.out
        · exact HEFR.out.trans ((eff_alloc sb _ _).trans HE3.out)
        · exact Nat.sub_lt_sub_left hlt (Nat.lt_succ_self k)
      · have : k = ks.length := by omega
        subst this
        have hdk := deeps_le_sizes ks
        simp only [List.take_length] at HBXR ⊢
        go_wp2_with fail
        go_ret
        exact ⟨mk_deep_ret op name cm m ks, by rw [mk_size_add]; exact HBXR.out, HEFR.out⟩
end Go.Proofs.YtpagkakplmeokaaDoor
