/- formed at what the parser answers. -/
import Derived.Test.YtcekampdldkjlaaDoorSNmR
set_option linter.unusedVariables false
set_option linter.unusedSimpArgs false
namespace Go.Proofs.YtcekampdldkjlaaDoor
open Go.RowKit

theorem int_eq {a b : Int} (h : a = b) : Value.int .i64 a = .int .i64 b := by rw [h]
theorem deep_of_mem : ∀ {ks : List Tree} {k : Nat} {t : Tree}, ks[k]? = some t → t.deep ≤ deeps ks
  | [], k, t, h => by simp at h
  | a :: r, 0, t, h => by simp at h; subst h; simp [deeps]; omega
  | a :: r, k + 1, t, h => by
    have := deep_of_mem (ks := r) (k := k) (by simpa using h)
    simp [deeps]; omega
def KidsOf (w : World) (A : Option Addr) (ks : List Tree) : Prop := ks = [] ∨ ∃ b off, A = some ⟨b, off, none⟩ ∧ True ∧ b < w.heap.size ∧ RdKids true (fun _ => True) w b off ks
theorem kids_of {w : World} {op : Nat} {name : List UInt8} {cm m : Nat} {A : Option Addr} {cap : Nat} {ks : List Tree} (h : RdTree true (fun _ => True) w (tcs true op name cm m (.slice A ks.length cap)) (.mk op name cm m ks)) : KidsOf w A ks := by
  obtain ⟨A', cap', he, hcap, hkids⟩ := h
  simp [tcs] at he
  obtain ⟨rfl, -⟩ := he
  exact hkids
set_option maxRecDepth 20000 in
set_option maxHeartbeats 2000000 in
theorem frm_1 (N : Nat) (ih : ∀ (t : Tree) (cs : List Value) (D : Int) (w : World), t.size ≤ N → t.size ≤ 900000 → (t.deep : Int) ≤ D → D ≤ 1000 → FormT t → RdTree true (fun _ => True) w cs t →
      Calls Tryd.prog 17 #[.agg cs.toArray, .int .i64 D] w fun e w' => e = .returned (.int .i64 t.size) ∧ Below w.heap.size w w')
    (op : Nat) (name : List UInt8) (cm m : Nat) (ks : List Tree) (A : Option Addr) (cap : Nat) (D : Int) (w : World) (hs1 : sizes ks ≤ N) (hs : sizes ks < 900000) (hd : (deeps ks : Int) + 1 ≤ D) (hD : D ≤ 1000) (hm : m ≤ 1000000) (hfl : FormL ks)
    (hkids : RdTree true (fun _ => True) w (tcs true op name cm m (.slice A ks.length cap)) (.mk op name cm m ks)) (ho : op = 1) (hn : name = []) (hk : ks.length = 0) :
    Calls Tryd.prog 17 #[.agg (tcs true op name cm m (.slice A ks.length cap)).toArray, .int .i64 D] w fun e w' => e = .returned (.int .i64 (Tree.mk op name cm m ks).size) ∧ Below w.heap.size w w' := by
  have IH := Lib.hid ih
  have hkids : Hid (KidsOf w A ks) := Lib.hid (kids_of hkids)
  have HKIDS := hkids
  have HFL := Lib.hid hfl
  have HD := Lib.hid hD
  have j1 : ¬ (m : Int) < 0 := by omega
  have j2 : ¬ (1000000 : Int) < m := by omega
  have hln := len_le_sizes ks
  have jd : (D == 0) = false := by simp; omega
  clear ih hkids hfl hm
  simp only [tcs]
  subst ho hn
  have i1 : ((ks.length : Int) != 0) = false := by rw [show (ks.length : Int) = 0 by omega]; rfl
  have i2 : ((ks.length : Int) == 0) = true := by rw [show (ks.length : Int) = 0 by omega]; rfl
  clear hk
  go_enter Tryd.func17, Tryd.ntmps17
  go_wp2_with fail
  have HE0 : Hid ((w.alloc (.cells #[.int .i64 (1 : Nat), vs [], .int .i64 cm, .int .i64 m, .slice A ks.length cap] 29 (0, 0))).heap[w.heap.size]? = some (.cells #[.int .i64 (1 : Nat), vs [], .int .i64 cm, .int .i64 m, .slice A ks.length cap] 29 (0, 0))) := Lib.hid (alloc_at rfl)
  have HB0 : Hid (Below w.heap.size w (w.alloc (.cells #[.int .i64 (1 : Nat), vs [], .int .i64 cm, .int .i64 m, .slice A ks.length cap] 29 (0, 0)))) := Lib.hid ((Below.refl _ _).alloc (Nat.le_refl _) _)
  generalize (w.alloc (.cells #[.int .i64 (1 : Nat), vs [], .int .i64 cm, .int .i64 m, .slice A ks.length cap] 29 (0, 0))) = w5 at *
  go_loopw [7, 8] (fun v7 v8 wr => ∃ k : Nat, k ≤ ks.length ∧ v7 = .int .i64 ((1 + sizes (ks.take k) : Nat) : Int) ∧ v8 = .int .i64 k ∧ Below w5.heap.size w5 wr) (fun _ v8 _ => ks.length - (intOf v8).toNat)
  case atStart => exact ⟨0, Nat.zero_le _, by simp [sizes], rfl, Below.refl _ _⟩
  case round =>
    obtain ⟨k, hkl, rfl, rfl, hb⟩ := hrel
    have e1 : wr.heap[w.heap.size]? = some (.cells #[.int .i64 (1 : Nat), vs [], .int .i64 cm, .int .i64 m, .slice A ks.length cap] 29 (0, 0)) := (hb.block _ (lt_of_heap' HE0.out)).trans HE0.out
    have c0 := cell_of_blk (o := 0) e1 rfl
    have c1 := cell_of_blk (o := 1) e1 rfl
    have c2 := cell_of_blk (o := 2) e1 rfl
    have c3 := cell_of_blk (o := 3) e1 rfl
    have c4 := cell_of_blk (o := 4) e1 rfl
    have l1 := lt_of_heap' e1
    have HB := Lib.hid hb
    have HBW := Lib.hid (HB0.out.trans (hb.mono HB0.out.size))
    clear hb e1
    by_cases hlt : k < ks.length
    · obtain ⟨t, ht⟩ := get_of_lt hlt
      have hst2 := size_of_mem ht
      have HT := Lib.hid ht
      have HTK := Lib.hid (sizes_take ht)
      have hdd := deep_of_mem ht
      obtain h0 | ⟨b, off, rfl, -, hbs, hkd⟩ := HKIDS.out
      · rw [h0] at hlt; simp at hlt
      obtain ⟨cs, hcs, hrt⟩ := hkd.get ht
      have HRTK := Lib.hid hrt
      obtain ⟨op', nm', cm', m', ks'⟩ := t
      obtain ⟨A', cap', rfl, -, -⟩ := hrt
      have hbw : b < wr.heap.size := Nat.lt_of_lt_of_le hbs HBW.out.size
      have e0 : wr.cell? ⟨b, off + k * 5, none⟩ = some (.int .i64 op') := (HBW.out.cell (p := ⟨b, off + k * 5, none⟩) hbs).trans (hcs 0 _ rfl)
      have e1 : wr.cell? ⟨b, off + k * 5 + 1, none⟩ = some (vs nm') := (HBW.out.cell (p := ⟨b, off + k * 5 + 1, none⟩) hbs).trans (hcs 1 _ rfl)
      have e2 : wr.cell? ⟨b, off + k * 5 + 2, none⟩ = some (.int .i64 cm') := (HBW.out.cell (p := ⟨b, off + k * 5 + 2, none⟩) hbs).trans (hcs 2 _ rfl)
      have e3 : wr.cell? ⟨b, off + k * 5 + 3, none⟩ = some (.int .i64 m') := (HBW.out.cell (p := ⟨b, off + k * 5 + 3, none⟩) hbs).trans (hcs 3 _ rfl)
      have e4 : wr.cell? ⟨b, off + k * 5 + 4, none⟩ = some (.slice A' ks'.length cap') := (HBW.out.cell (p := ⟨b, off + k * 5 + 4, none⟩) hbs).trans (hcs 4 _ rfl)
      have hk1 : (k : Int) < ks.length := by omega
      have hd1 : ((Tree.mk op' nm' cm' m' ks').deep : Int) ≤ D - 1 := by omega
      have HD1 := Lib.hid hd1
      have hsz : sizes (ks.take k) + (Tree.mk op' nm' cm' m' ks').size ≤ 1000000 := by have := sizes_take_le ks (k + 1); have := HTK.out; omega
      have HSZ := Lib.hid hsz
      have HST := Lib.hid hst2
      have h8 := sizes_take_le ks k
      obtain ⟨z, hz⟩ : ∃ z, sizes (ks.take k) = z := ⟨_, rfl⟩
      rw [hz]
      have HZ := Lib.hid hz
      have hzl : z ≤ 1000000 := by omega
      clear ht hkd hcs hst2 hdd hd1 hsz hz h8 hlt
      go_wp2_with fail
      refine (IH.out (.mk op' nm' cm' m' ks') (tcs true op' nm' cm' m' (.slice A' ks'.length cap')) (D - 1) _ (by have := HST.out; omega) (by have := HST.out; omega) HD1.out (by omega) (mem_f HFL.out HT.out) (HRTK.out.keep HBW.out.size (fun b _ hlt => ⟨trivial, HBW.out.block _ hlt⟩))).mono ?_
      rintro e w3 ⟨rfl, hb3⟩
      have HB3 := Lib.hid hb3
      obtain ⟨y, hy⟩ : ∃ y, (Tree.mk op' nm' cm' m' ks').size = y := ⟨_, rfl⟩
      rw [hy]
      have HY := Lib.hid hy
      have hyl : z + y ≤ 1000000 := by have := HSZ.out; rw [HZ.out, hy] at this; exact this
      clear hb3 hy c0 c1 c2 c3 c4
      go_wp2_with fail
      exact ⟨⟨k + 1, by omega, int_eq (by rw [HTK.out, HZ.out, HY.out]; omega), by go_num, HB.out.trans (HB3.out.mono HB.out.size)⟩, by simp [intOf]; omega⟩
    · have : k = ks.length := by omega
      subst this
      have hk1 : ¬ ((ks.length : Nat) : Int) < ks.length := by omega
      rw [List.take_length]
      obtain ⟨z, hz⟩ : ∃ z, sizes ks = z := ⟨_, rfl⟩
      rw [hz]
      have HZ := Lib.hid hz
      clear hz
      go_wp2_with fail
      go_ret
      exact ⟨by rw [Tree.size, HZ.out]; exact ret_int (show (1 + (z : Int)) = ((1 + z : Nat) : Int) by omega), HBW.out⟩
set_option maxRecDepth 20000 in
set_option maxHeartbeats 2000000 in
theorem frm_2 (N : Nat) (ih : ∀ (t : Tree) (cs : List Value) (D : Int) (w : World), t.size ≤ N → t.size ≤ 900000 → (t.deep : Int) ≤ D → D ≤ 1000 → FormT t → RdTree true (fun _ => True) w cs t →
      Calls Tryd.prog 17 #[.agg cs.toArray, .int .i64 D] w fun e w' => e = .returned (.int .i64 t.size) ∧ Below w.heap.size w w')
    (op : Nat) (name : List UInt8) (cm m : Nat) (ks : List Tree) (A : Option Addr) (cap : Nat) (D : Int) (w : World) (hs1 : sizes ks ≤ N) (hs : sizes ks < 900000) (hd : (deeps ks : Int) + 1 ≤ D) (hD : D ≤ 1000) (hm : m ≤ 1000000) (hfl : FormL ks)
    (hkids : RdTree true (fun _ => True) w (tcs true op name cm m (.slice A ks.length cap)) (.mk op name cm m ks)) (ho : op = 2) (hn : name = []) (hk : ks.length = 0) :
    Calls Tryd.prog 17 #[.agg (tcs true op name cm m (.slice A ks.length cap)).toArray, .int .i64 D] w fun e w' => e = .returned (.int .i64 (Tree.mk op name cm m ks).size) ∧ Below w.heap.size w w' := by
  have IH := Lib.hid ih
  have hkids : Hid (KidsOf w A ks) := Lib.hid (kids_of hkids)
  have HKIDS := hkids
  have HFL := Lib.hid hfl
  have HD := Lib.hid hD
  have j1 : ¬ (m : Int) < 0 := by omega
  have j2 : ¬ (1000000 : Int) < m := by omega
  have hln := len_le_sizes ks
  have jd : (D == 0) = false := by simp; omega
  clear ih hkids hfl hm
  simp only [tcs]
  subst ho hn
  have i1 : ((ks.length : Int) != 0) = false := by rw [show (ks.length : Int) = 0 by omega]; rfl
  have i2 : ((ks.length : Int) == 0) = true := by rw [show (ks.length : Int) = 0 by omega]; rfl
  clear hk
  go_enter Tryd.func17, Tryd.ntmps17
  go_wp2_with fail
  have HE0 : Hid ((w.alloc (.cells #[.int .i64 (2 : Nat), vs [], .int .i64 cm, .int .i64 m, .slice A ks.length cap] 29 (0, 0))).heap[w.heap.size]? = some (.cells #[.int .i64 (2 : Nat), vs [], .int .i64 cm, .int .i64 m, .slice A ks.length cap] 29 (0, 0))) := Lib.hid (alloc_at rfl)
  have HB0 : Hid (Below w.heap.size w (w.alloc (.cells #[.int .i64 (2 : Nat), vs [], .int .i64 cm, .int .i64 m, .slice A ks.length cap] 29 (0, 0)))) := Lib.hid ((Below.refl _ _).alloc (Nat.le_refl _) _)
  generalize (w.alloc (.cells #[.int .i64 (2 : Nat), vs [], .int .i64 cm, .int .i64 m, .slice A ks.length cap] 29 (0, 0))) = w5 at *
  go_loopw [7, 8] (fun v7 v8 wr => ∃ k : Nat, k ≤ ks.length ∧ v7 = .int .i64 ((1 + sizes (ks.take k) : Nat) : Int) ∧ v8 = .int .i64 k ∧ Below w5.heap.size w5 wr) (fun _ v8 _ => ks.length - (intOf v8).toNat)
  case atStart => exact ⟨0, Nat.zero_le _, by simp [sizes], rfl, Below.refl _ _⟩
  case round =>
    obtain ⟨k, hkl, rfl, rfl, hb⟩ := hrel
    have e1 : wr.heap[w.heap.size]? = some (.cells #[.int .i64 (2 : Nat), vs [], .int .i64 cm, .int .i64 m, .slice A ks.length cap] 29 (0, 0)) := (hb.block _ (lt_of_heap' HE0.out)).trans HE0.out
    have c0 := cell_of_blk (o := 0) e1 rfl
    have c1 := cell_of_blk (o := 1) e1 rfl
    have c2 := cell_of_blk (o := 2) e1 rfl
    have c3 := cell_of_blk (o := 3) e1 rfl
    have c4 := cell_of_blk (o := 4) e1 rfl
    have l1 := lt_of_heap' e1
    have HB := Lib.hid hb
    have HBW := Lib.hid (HB0.out.trans (hb.mono HB0.out.size))
    clear hb e1
    by_cases hlt : k < ks.length
    · obtain ⟨t, ht⟩ := get_of_lt hlt
      have hst2 := size_of_mem ht
      have HT := Lib.hid ht
      have HTK := Lib.hid (sizes_take ht)
      have hdd := deep_of_mem ht
      obtain h0 | ⟨b, off, rfl, -, hbs, hkd⟩ := HKIDS.out
      · rw [h0] at hlt; simp at hlt
      obtain ⟨cs, hcs, hrt⟩ := hkd.get ht
      have HRTK := Lib.hid hrt
      obtain ⟨op', nm', cm', m', ks'⟩ := t
      obtain ⟨A', cap', rfl, -, -⟩ := hrt
      have hbw : b < wr.heap.size := Nat.lt_of_lt_of_le hbs HBW.out.size
      have e0 : wr.cell? ⟨b, off + k * 5, none⟩ = some (.int .i64 op') := (HBW.out.cell (p := ⟨b, off + k * 5, none⟩) hbs).trans (hcs 0 _ rfl)
      have e1 : wr.cell? ⟨b, off + k * 5 + 1, none⟩ = some (vs nm') := (HBW.out.cell (p := ⟨b, off + k * 5 + 1, none⟩) hbs).trans (hcs 1 _ rfl)
      have e2 : wr.cell? ⟨b, off + k * 5 + 2, none⟩ = some (.int .i64 cm') := (HBW.out.cell (p := ⟨b, off + k * 5 + 2, none⟩) hbs).trans (hcs 2 _ rfl)
      have e3 : wr.cell? ⟨b, off + k * 5 + 3, none⟩ = some (.int .i64 m') := (HBW.out.cell (p := ⟨b, off + k * 5 + 3, none⟩) hbs).trans (hcs 3 _ rfl)
      have e4 : wr.cell? ⟨b, off + k * 5 + 4, none⟩ = some (.slice A' ks'.length cap') := (HBW.out.cell (p := ⟨b, off + k * 5 + 4, none⟩) hbs).trans (hcs 4 _ rfl)
      have hk1 : (k : Int) < ks.length := by omega
      have hd1 : ((Tree.mk op' nm' cm' m' ks').deep : Int) ≤ D - 1 := by omega
      have HD1 := Lib.hid hd1
      have hsz : sizes (ks.take k) + (Tree.mk op' nm' cm' m' ks').size ≤ 1000000 := by have := sizes_take_le ks (k + 1); have := HTK.out; omega
      have HSZ := Lib.hid hsz
      have HST := Lib.hid hst2
      have h8 := sizes_take_le ks k
      obtain ⟨z, hz⟩ : ∃ z, sizes (ks.take k) = z := ⟨_, rfl⟩
      rw [hz]
      have HZ := Lib.hid hz
      have hzl : z ≤ 1000000 := by omega
      clear ht hkd hcs hst2 hdd hd1 hsz hz h8 hlt
      go_wp2_with fail
      refine (IH.out (.mk op' nm' cm' m' ks') (tcs true op' nm' cm' m' (.slice A' ks'.length cap')) (D - 1) _ (by have := HST.out; omega) (by have := HST.out; omega) HD1.out (by omega) (mem_f HFL.out HT.out) (HRTK.out.keep HBW.out.size (fun b _ hlt => ⟨trivial, HBW.out.block _ hlt⟩))).mono ?_
      rintro e w3 ⟨rfl, hb3⟩
      have HB3 := Lib.hid hb3
      obtain ⟨y, hy⟩ : ∃ y, (Tree.mk op' nm' cm' m' ks').size = y := ⟨_, rfl⟩
      rw [hy]
      have HY := Lib.hid hy
      have hyl : z + y ≤ 1000000 := by have := HSZ.out; rw [HZ.out, hy] at this; exact this
      clear hb3 hy c0 c1 c2 c3 c4
      go_wp2_with fail
      exact ⟨⟨k + 1, by omega, int_eq (by rw [HTK.out, HZ.out, HY.out]; omega), by go_num, HB.out.trans (HB3.out.mono HB.out.size)⟩, by simp [intOf]; omega⟩
    · have : k = ks.length := by omega
      subst this
      have hk1 : ¬ ((ks.length : Nat) : Int) < ks.length := by omega
      rw [List.take_length]
      obtain ⟨z, hz⟩ : ∃ z, sizes ks = z := ⟨_, rfl⟩
      rw [hz]
      have HZ := Lib.hid hz
      clear hz
      go_wp2_with fail
      go_ret
      exact ⟨by rw [Tree.size, HZ.out]; exact ret_int (show (1 + (z : Int)) = ((1 + z : Nat) : Int) by omega), HBW.out⟩
set_option maxRecDepth 20000 in
set_option maxHeartbeats 2000000 in
theorem frm_3 (N : Nat) (ih : ∀ (t : Tree) (cs : List Value) (D : Int) (w : World), t.size ≤ N → t.size ≤ 900000 → (t.deep : Int) ≤ D → D ≤ 1000 → FormT t → RdTree true (fun _ => True) w cs t →
      Calls Tryd.prog 17 #[.agg cs.toArray, .int .i64 D] w fun e w' => e = .returned (.int .i64 t.size) ∧ Below w.heap.size w w')
    (op : Nat) (name : List UInt8) (cm m : Nat) (ks : List Tree) (A : Option Addr) (cap : Nat) (D : Int) (w : World) (hs1 : sizes ks ≤ N) (hs : sizes ks < 900000) (hd : (deeps ks : Int) + 1 ≤ D) (hD : D ≤ 1000) (hm : m ≤ 1000000) (hfl : FormL ks)
    (hkids : RdTree true (fun _ => True) w (tcs true op name cm m (.slice A ks.length cap)) (.mk op name cm m ks)) (ho : op = 3) (hn : goodName name = true) (hk : ks.length = 0) :
    Calls Tryd.prog 17 #[.agg (tcs true op name cm m (.slice A ks.length cap)).toArray, .int .i64 D] w fun e w' => e = .returned (.int .i64 (Tree.mk op name cm m ks).size) ∧ Below w.heap.size w w' := by
  have IH := Lib.hid ih
  have hkids : Hid (KidsOf w A ks) := Lib.hid (kids_of hkids)
  have HKIDS := hkids
  have HFL := Lib.hid hfl
  have HD := Lib.hid hD
  have j1 : ¬ (m : Int) < 0 := by omega
  have j2 : ¬ (1000000 : Int) < m := by omega
  have hln := len_le_sizes ks
  have jd : (D == 0) = false := by simp; omega
  clear ih hkids hfl hm
  simp only [tcs]
  subst ho
  have HGN := Lib.hid hn
  have i1 : ((ks.length : Int) != 0) = false := by rw [show (ks.length : Int) = 0 by omega]; rfl
  have i2 : ((ks.length : Int) == 0) = true := by rw [show (ks.length : Int) = 0 by omega]; rfl
  clear hk hn
  go_enter Tryd.func17, Tryd.ntmps17
  go_wp2_with fail
  refine (key_no name _ HGN.out).mono ?_
  rintro e w5 ⟨rfl, hb5⟩
  have e5 : w5.heap[w.heap.size]? = some (.cells #[.int .i64 (3 : Nat), vs name, .int .i64 cm, .int .i64 m, .slice A ks.length cap] 29 (0, 0)) := (hb5.block _ (by simp)).trans (alloc_at rfl)
  have c0 := cell_of_blk (o := 0) e5 rfl
  have c1 := cell_of_blk (o := 1) e5 rfl
  have c2 := cell_of_blk (o := 2) e5 rfl
  have c3 := cell_of_blk (o := 3) e5 rfl
  have c4 := cell_of_blk (o := 4) e5 rfl
  have l5 := lt_of_heap' e5
  have HE0 := Lib.hid e5
  have HB0 : Hid (Below w.heap.size w w5) := Lib.hid (((Below.refl _ _).alloc (Nat.le_refl _) _).trans (hb5.mono (by simp)))
  clear hb5 e5
  go_wp2_with fail
  clear c0 c1 c2 c3 c4
  go_loopw [7, 8] (fun v7 v8 wr => ∃ k : Nat, k ≤ ks.length ∧ v7 = .int .i64 ((1 + sizes (ks.take k) : Nat) : Int) ∧ v8 = .int .i64 k ∧ Below w5.heap.size w5 wr) (fun _ v8 _ => ks.length - (intOf v8).toNat)
  case atStart => exact ⟨0, Nat.zero_le _, by simp [sizes], rfl, Below.refl _ _⟩
  case round =>
    obtain ⟨k, hkl, rfl, rfl, hb⟩ := hrel
    have e1 : wr.heap[w.heap.size]? = some (.cells #[.int .i64 (3 : Nat), vs name, .int .i64 cm, .int .i64 m, .slice A ks.length cap] 29 (0, 0)) := (hb.block _ (lt_of_heap' HE0.out)).trans HE0.out
    have c0 := cell_of_blk (o := 0) e1 rfl
    have c1 := cell_of_blk (o := 1) e1 rfl
    have c2 := cell_of_blk (o := 2) e1 rfl
    have c3 := cell_of_blk (o := 3) e1 rfl
    have c4 := cell_of_blk (o := 4) e1 rfl
    have l1 := lt_of_heap' e1
    have HB := Lib.hid hb
    have HBW := Lib.hid (HB0.out.trans (hb.mono HB0.out.size))
    clear hb e1
    by_cases hlt : k < ks.length
    · obtain ⟨t, ht⟩ := get_of_lt hlt
      have hst2 := size_of_mem ht
      have HT := Lib.hid ht
      have HTK := Lib.hid (sizes_take ht)
      have hdd := deep_of_mem ht
      obtain h0 | ⟨b, off, rfl, -, hbs, hkd⟩ := HKIDS.out
      · rw [h0] at hlt; simp at hlt
      obtain ⟨cs, hcs, hrt⟩ := hkd.get ht
      have HRTK := Lib.hid hrt
      obtain ⟨op', nm', cm', m', ks'⟩ := t
      obtain ⟨A', cap', rfl, -, -⟩ := hrt
      have hbw : b < wr.heap.size := Nat.lt_of_lt_of_le hbs HBW.out.size
      have e0 : wr.cell? ⟨b, off + k * 5, none⟩ = some (.int .i64 op') := (HBW.out.cell (p := ⟨b, off + k * 5, none⟩) hbs).trans (hcs 0 _ rfl)
      have e1 : wr.cell? ⟨b, off + k * 5 + 1, none⟩ = some (vs nm') := (HBW.out.cell (p := ⟨b, off + k * 5 + 1, none⟩) hbs).trans (hcs 1 _ rfl)
      have e2 : wr.cell? ⟨b, off + k * 5 + 2, none⟩ = some (.int .i64 cm') := (HBW.out.cell (p := ⟨b, off + k * 5 + 2, none⟩) hbs).trans (hcs 2 _ rfl)
      have e3 : wr.cell? ⟨b, off + k * 5 + 3, none⟩ = some (.int .i64 m') := (HBW.out.cell (p := ⟨b, off + k * 5 + 3, none⟩) hbs).trans (hcs 3 _ rfl)
      have e4 : wr.cell? ⟨b, off + k * 5 + 4, none⟩ = some (.slice A' ks'.length cap') := (HBW.out.cell (p := ⟨b, off + k * 5 + 4, none⟩) hbs).trans (hcs 4 _ rfl)
      have hk1 : (k : Int) < ks.length := by omega
      have hd1 : ((Tree.mk op' nm' cm' m' ks').deep : Int) ≤ D - 1 := by omega
      have HD1 := Lib.hid hd1
      have hsz : sizes (ks.take k) + (Tree.mk op' nm' cm' m' ks').size ≤ 1000000 := by have := sizes_take_le ks (k + 1); have := HTK.out; omega
      have HSZ := Lib.hid hsz
      have HST := Lib.hid hst2
      have h8 := sizes_take_le ks k
      obtain ⟨z, hz⟩ : ∃ z, sizes (ks.take k) = z := ⟨_, rfl⟩
      rw [hz]
      have HZ := Lib.hid hz
      have hzl : z ≤ 1000000 := by omega
      clear ht hkd hcs hst2 hdd hd1 hsz hz h8 hlt
      go_wp2_with fail
      refine (IH.out (.mk op' nm' cm' m' ks') (tcs true op' nm' cm' m' (.slice A' ks'.length cap')) (D - 1) _ (by have := HST.out; omega) (by have := HST.out; omega) HD1.out (by omega) (mem_f HFL.out HT.out) (HRTK.out.keep HBW.out.size (fun b _ hlt => ⟨trivial, HBW.out.block _ hlt⟩))).mono ?_
      rintro e w3 ⟨rfl, hb3⟩
      have HB3 := Lib.hid hb3
      obtain ⟨y, hy⟩ : ∃ y, (Tree.mk op' nm' cm' m' ks').size = y := ⟨_, rfl⟩
      rw [hy]
      have HY := Lib.hid hy
      have hyl : z + y ≤ 1000000 := by have := HSZ.out; rw [HZ.out, hy] at this; exact this
      clear hb3 hy c0 c1 c2 c3 c4
      go_wp2_with fail
      exact ⟨⟨k + 1, by omega, int_eq (by rw [HTK.out, HZ.out, HY.out]; omega), by go_num, HB.out.trans (HB3.out.mono HB.out.size)⟩, by simp [intOf]; omega⟩
    · have : k = ks.length := by omega
      subst this
      have hk1 : ¬ ((ks.length : Nat) : Int) < ks.length := by omega
      rw [List.take_length]
      obtain ⟨z, hz⟩ : ∃ z, sizes ks = z := ⟨_, rfl⟩
      rw [hz]
      have HZ := Lib.hid hz
      clear hz
      go_wp2_with fail
      go_ret
      exact ⟨by rw [Tree.size, HZ.out]; exact ret_int (show (1 + (z : Int)) = ((1 + z : Nat) : Int) by omega), HBW.out⟩
set_option maxRecDepth 20000 in
set_option maxHeartbeats 2000000 in
theorem frm_4 (N : Nat) (ih : ∀ (t : Tree) (cs : List Value) (D : Int) (w : World), t.size ≤ N → t.size ≤ 900000 → (t.deep : Int) ≤ D → D ≤ 1000 → FormT t → RdTree true (fun _ => True) w cs t →
      Calls Tryd.prog 17 #[.agg cs.toArray, .int .i64 D] w fun e w' => e = .returned (.int .i64 t.size) ∧ Below w.heap.size w w')
    (op : Nat) (name : List UInt8) (cm m : Nat) (ks : List Tree) (A : Option Addr) (cap : Nat) (D : Int) (w : World) (hs1 : sizes ks ≤ N) (hs : sizes ks < 900000) (hd : (deeps ks : Int) + 1 ≤ D) (hD : D ≤ 1000) (hm : m ≤ 1000000) (hfl : FormL ks)
    (hkids : RdTree true (fun _ => True) w (tcs true op name cm m (.slice A ks.length cap)) (.mk op name cm m ks)) (ho : op = 4) (hn : goodName name = true) (hk : ks.length = 0) :
    Calls Tryd.prog 17 #[.agg (tcs true op name cm m (.slice A ks.length cap)).toArray, .int .i64 D] w fun e w' => e = .returned (.int .i64 (Tree.mk op name cm m ks).size) ∧ Below w.heap.size w w' := by
  have IH := Lib.hid ih
  have hkids : Hid (KidsOf w A ks) := Lib.hid (kids_of hkids)
  have HKIDS := hkids
  have HFL := Lib.hid hfl
  have HD := Lib.hid hD
  have j1 : ¬ (m : Int) < 0 := by omega
  have j2 : ¬ (1000000 : Int) < m := by omega
  have hln := len_le_sizes ks
  have jd : (D == 0) = false := by simp; omega
  clear ih hkids hfl hm
  simp only [tcs]
  subst ho
  have HGN := Lib.hid hn
  have i1 : ((ks.length : Int) != 0) = false := by rw [show (ks.length : Int) = 0 by omega]; rfl
  have i2 : ((ks.length : Int) == 0) = true := by rw [show (ks.length : Int) = 0 by omega]; rfl
  clear hk hn
  go_enter Tryd.func17, Tryd.ntmps17
  go_wp2_with fail
  refine (key_no name _ HGN.out).mono ?_
  rintro e w5 ⟨rfl, hb5⟩
  have e5 : w5.heap[w.heap.size]? = some (.cells #[.int .i64 (4 : Nat), vs name, .int .i64 cm, .int .i64 m, .slice A ks.length cap] 29 (0, 0)) := (hb5.block _ (by simp)).trans (alloc_at rfl)
  have c0 := cell_of_blk (o := 0) e5 rfl
  have c1 := cell_of_blk (o := 1) e5 rfl
  have c2 := cell_of_blk (o := 2) e5 rfl
  have c3 := cell_of_blk (o := 3) e5 rfl
  have c4 := cell_of_blk (o := 4) e5 rfl
  have l5 := lt_of_heap' e5
  have HE0 := Lib.hid e5
  have HB0 : Hid (Below w.heap.size w w5) := Lib.hid (((Below.refl _ _).alloc (Nat.le_refl _) _).trans (hb5.mono (by simp)))
  clear hb5 e5
  go_wp2_with fail
  clear c0 c1 c2 c3 c4
  go_loopw [7, 8] (fun v7 v8 wr => ∃ k : Nat, k ≤ ks.length ∧ v7 = .int .i64 ((1 + sizes (ks.take k) : Nat) : Int) ∧ v8 = .int .i64 k ∧ Below w5.heap.size w5 wr) (fun _ v8 _ => ks.length - (intOf v8).toNat)
  case atStart => exact ⟨0, Nat.zero_le _, by simp [sizes], rfl, Below.refl _ _⟩
  case round =>
    obtain ⟨k, hkl, rfl, rfl, hb⟩ := hrel
    have e1 : wr.heap[w.heap.size]? = some (.cells #[.int .i64 (4 : Nat), vs name, .int .i64 cm, .int .i64 m, .slice A ks.length cap] 29 (0, 0)) := (hb.block _ (lt_of_heap' HE0.out)).trans HE0.out
    have c0 := cell_of_blk (o := 0) e1 rfl
    have c1 := cell_of_blk (o := 1) e1 rfl
    have c2 := cell_of_blk (o := 2) e1 rfl
    have c3 := cell_of_blk (o := 3) e1 rfl
    have c4 := cell_of_blk (o := 4) e1 rfl
    have l1 := lt_of_heap' e1
    have HB := Lib.hid hb
    have HBW := Lib.hid (HB0.out.trans (hb.mono HB0.out.size))
    clear hb e1
    by_cases hlt : k < ks.length
    · obtain ⟨t, ht⟩ := get_of_lt hlt
      have hst2 := size_of_mem ht
      have HT := Lib.hid ht
      have HTK := Lib.hid (sizes_take ht)
      have hdd := deep_of_mem ht
      obtain h0 | ⟨b, off, rfl, -, hbs, hkd⟩ := HKIDS.out
      · rw [h0] at hlt; simp at hlt
      obtain ⟨cs, hcs, hrt⟩ := hkd.get ht
      have HRTK := Lib.hid hrt
      obtain ⟨op', nm', cm', m', ks'⟩ := t
      obtain ⟨A', cap', rfl, -, -⟩ := hrt
      have hbw : b < wr.heap.size := Nat.lt_of_lt_of_le hbs HBW.out.size
      have e0 : wr.cell? ⟨b, off + k * 5, none⟩ = some (.int .i64 op') := (HBW.out.cell (p := ⟨b, off + k * 5, none⟩) hbs).trans (hcs 0 _ rfl)
      have e1 : wr.cell? ⟨b, off + k * 5 + 1, none⟩ = some (vs nm') := (HBW.out.cell (p := ⟨b, off + k * 5 + 1, none⟩) hbs).trans (hcs 1 _ rfl)
      have e2 : wr.cell? ⟨b, off + k * 5 + 2, none⟩ = some (.int .i64 cm') := (HBW.out.cell (p := ⟨b, off + k * 5 + 2, none⟩) hbs).trans (hcs 2 _ rfl)
      have e3 : wr.cell? ⟨b, off + k * 5 + 3, none⟩ = some (.int .i64 m') := (HBW.out.cell (p := ⟨b, off + k * 5 + 3, none⟩) hbs).trans (hcs 3 _ rfl)
      have e4 : wr.cell? ⟨b, off + k * 5 + 4, none⟩ = some (.slice A' ks'.length cap') := (HBW.out.cell (p := ⟨b, off + k * 5 + 4, none⟩) hbs).trans (hcs 4 _ rfl)
      have hk1 : (k : Int) < ks.length := by omega
      have hd1 : ((Tree.mk op' nm' cm' m' ks').deep : Int) ≤ D - 1 := by omega
      have HD1 := Lib.hid hd1
      have hsz : sizes (ks.take k) + (Tree.mk op' nm' cm' m' ks').size ≤ 1000000 := by have := sizes_take_le ks (k + 1); have := HTK.out; omega
      have HSZ := Lib.hid hsz
      have HST := Lib.hid hst2
      have h8 := sizes_take_le ks k
      obtain ⟨z, hz⟩ : ∃ z, sizes (ks.take k) = z := ⟨_, rfl⟩
      rw [hz]
      have HZ := Lib.hid hz
      have hzl : z ≤ 1000000 := by omega
      clear ht hkd hcs hst2 hdd hd1 hsz hz h8 hlt
      go_wp2_with fail
      refine (IH.out (.mk op' nm' cm' m' ks') (tcs true op' nm' cm' m' (.slice A' ks'.length cap')) (D - 1) _ (by have := HST.out; omega) (by have := HST.out; omega) HD1.out (by omega) (mem_f HFL.out HT.out) (HRTK.out.keep HBW.out.size (fun b _ hlt => ⟨trivial, HBW.out.block _ hlt⟩))).mono ?_
      rintro e w3 ⟨rfl, hb3⟩
      have HB3 := Lib.hid hb3
      obtain ⟨y, hy⟩ : ∃ y, (Tree.mk op' nm' cm' m' ks').size = y := ⟨_, rfl⟩
      rw [hy]
      have HY := Lib.hid hy
      have hyl : z + y ≤ 1000000 := by have := HSZ.out; rw [HZ.out, hy] at this; exact this
      clear hb3 hy c0 c1 c2 c3 c4
      go_wp2_with fail
      exact ⟨⟨k + 1, by omega, int_eq (by rw [HTK.out, HZ.out, HY.out]; omega), by go_num, HB.out.trans (HB3.out.mono HB.out.size)⟩, by simp [intOf]; omega⟩
    · have : k = ks.length := by omega
      subst this
      have hk1 : ¬ ((ks.length : Nat) : Int) < ks.length := by omega
      rw [List.take_length]
      obtain ⟨z, hz⟩ : ∃ z, sizes ks = z := ⟨_, rfl⟩
      rw [hz]
      have HZ := Lib.hid hz
      clear hz
      go_wp2_with fail
      go_ret
      exact ⟨by rw [Tree.size, HZ.out]; exact ret_int (show (1 + (z : Int)) = ((1 + z : Nat) : Int) by omega), HBW.out⟩
set_option maxRecDepth 20000 in
set_option maxHeartbeats 2000000 in
theorem frm_5 (N : Nat) (ih : ∀ (t : Tree) (cs : List Value) (D : Int) (w : World), t.size ≤ N → t.size ≤ 900000 → (t.deep : Int) ≤ D → D ≤ 1000 → FormT t → RdTree true (fun _ => True) w cs t →
      Calls Tryd.prog 17 #[.agg cs.toArray, .int .i64 D] w fun e w' => e = .returned (.int .i64 t.size) ∧ Below w.heap.size w w')
    (op : Nat) (name : List UInt8) (cm m : Nat) (ks : List Tree) (A : Option Addr) (cap : Nat) (D : Int) (w : World) (hs1 : sizes ks ≤ N) (hs : sizes ks < 900000) (hd : (deeps ks : Int) + 1 ≤ D) (hD : D ≤ 1000) (hm : m ≤ 1000000) (hfl : FormL ks)
    (hkids : RdTree true (fun _ => True) w (tcs true op name cm m (.slice A ks.length cap)) (.mk op name cm m ks)) (ho : op = 5) (hn : name = []) (hk : ks.length = 1) :
    Calls Tryd.prog 17 #[.agg (tcs true op name cm m (.slice A ks.length cap)).toArray, .int .i64 D] w fun e w' => e = .returned (.int .i64 (Tree.mk op name cm m ks).size) ∧ Below w.heap.size w w' := by
  have IH := Lib.hid ih
  have hkids : Hid (KidsOf w A ks) := Lib.hid (kids_of hkids)
  have HKIDS := hkids
  have HFL := Lib.hid hfl
  have HD := Lib.hid hD
  have j1 : ¬ (m : Int) < 0 := by omega
  have j2 : ¬ (1000000 : Int) < m := by omega
  have hln := len_le_sizes ks
  have jd : (D == 0) = false := by simp; omega
  clear ih hkids hfl hm
  simp only [tcs]
  subst ho hn
  have i1 : ((ks.length : Int) != 1) = false := by rw [show (ks.length : Int) = 1 by omega]; rfl
  have i2 : ((ks.length : Int) == 1) = true := by rw [show (ks.length : Int) = 1 by omega]; rfl
  clear hk
  go_enter Tryd.func17, Tryd.ntmps17
  go_wp2_with fail
  have HE0 : Hid ((w.alloc (.cells #[.int .i64 (5 : Nat), vs [], .int .i64 cm, .int .i64 m, .slice A ks.length cap] 29 (0, 0))).heap[w.heap.size]? = some (.cells #[.int .i64 (5 : Nat), vs [], .int .i64 cm, .int .i64 m, .slice A ks.length cap] 29 (0, 0))) := Lib.hid (alloc_at rfl)
  have HB0 : Hid (Below w.heap.size w (w.alloc (.cells #[.int .i64 (5 : Nat), vs [], .int .i64 cm, .int .i64 m, .slice A ks.length cap] 29 (0, 0)))) := Lib.hid ((Below.refl _ _).alloc (Nat.le_refl _) _)
  generalize (w.alloc (.cells #[.int .i64 (5 : Nat), vs [], .int .i64 cm, .int .i64 m, .slice A ks.length cap] 29 (0, 0))) = w5 at *
  go_loopw [7, 8] (fun v7 v8 wr => ∃ k : Nat, k ≤ ks.length ∧ v7 = .int .i64 ((1 + sizes (ks.take k) : Nat) : Int) ∧ v8 = .int .i64 k ∧ Below w5.heap.size w5 wr) (fun _ v8 _ => ks.length - (intOf v8).toNat)
  case atStart => exact ⟨0, Nat.zero_le _, by simp [sizes], rfl, Below.refl _ _⟩
  case round =>
    obtain ⟨k, hkl, rfl, rfl, hb⟩ := hrel
    have e1 : wr.heap[w.heap.size]? = some (.cells #[.int .i64 (5 : Nat), vs [], .int .i64 cm, .int .i64 m, .slice A ks.length cap] 29 (0, 0)) := (hb.block _ (lt_of_heap' HE0.out)).trans HE0.out
    have c0 := cell_of_blk (o := 0) e1 rfl
    have c1 := cell_of_blk (o := 1) e1 rfl
    have c2 := cell_of_blk (o := 2) e1 rfl
    have c3 := cell_of_blk (o := 3) e1 rfl
    have c4 := cell_of_blk (o := 4) e1 rfl
    have l1 := lt_of_heap' e1
    have HB := Lib.hid hb
    have HBW := Lib.hid (HB0.out.trans (hb.mono HB0.out.size))
    clear hb e1
    by_cases hlt : k < ks.length
    · obtain ⟨t, ht⟩ := get_of_lt hlt
      have hst2 := size_of_mem ht
      have HT := Lib.hid ht
      have HTK := Lib.hid (sizes_take ht)
      have hdd := deep_of_mem ht
      obtain h0 | ⟨b, off, rfl, -, hbs, hkd⟩ := HKIDS.out
      · rw [h0] at hlt; simp at hlt
      obtain ⟨cs, hcs, hrt⟩ := hkd.get ht
      have HRTK := Lib.hid hrt
      obtain ⟨op', nm', cm', m', ks'⟩ := t
      obtain ⟨A', cap', rfl, -, -⟩ := hrt
      have hbw : b < wr.heap.size := Nat.lt_of_lt_of_le hbs HBW.out.size
      have e0 : wr.cell? ⟨b, off + k * 5, none⟩ = some (.int .i64 op') := (HBW.out.cell (p := ⟨b, off + k * 5, none⟩) hbs).trans (hcs 0 _ rfl)
      have e1 : wr.cell? ⟨b, off + k * 5 + 1, none⟩ = some (vs nm') := (HBW.out.cell (p := ⟨b, off + k * 5 + 1, none⟩) hbs).trans (hcs 1 _ rfl)
      have e2 : wr.cell? ⟨b, off + k * 5 + 2, none⟩ = some (.int .i64 cm') := (HBW.out.cell (p := ⟨b, off + k * 5 + 2, none⟩) hbs).trans (hcs 2 _ rfl)
      have e3 : wr.cell? ⟨b, off + k * 5 + 3, none⟩ = some (.int .i64 m') := (HBW.out.cell (p := ⟨b, off + k * 5 + 3, none⟩) hbs).trans (hcs 3 _ rfl)
      have e4 : wr.cell? ⟨b, off + k * 5 + 4, none⟩ = some (.slice A' ks'.length cap') := (HBW.out.cell (p := ⟨b, off + k * 5 + 4, none⟩) hbs).trans (hcs 4 _ rfl)
      have hk1 : (k : Int) < ks.length := by omega
      have hd1 : ((Tree.mk op' nm' cm' m' ks').deep : Int) ≤ D - 1 := by omega
      have HD1 := Lib.hid hd1
      have hsz : sizes (ks.take k) + (Tree.mk op' nm' cm' m' ks').size ≤ 1000000 := by have := sizes_take_le ks (k + 1); have := HTK.out; omega
      have HSZ := Lib.hid hsz
      have HST := Lib.hid hst2
      have h8 := sizes_take_le ks k
      obtain ⟨z, hz⟩ : ∃ z, sizes (ks.take k) = z := ⟨_, rfl⟩
      rw [hz]
      have HZ := Lib.hid hz
      have hzl : z ≤ 1000000 := by omega
      clear ht hkd hcs hst2 hdd hd1 hsz hz h8 hlt
      go_wp2_with fail
      refine (IH.out (.mk op' nm' cm' m' ks') (tcs true op' nm' cm' m' (.slice A' ks'.length cap')) (D - 1) _ (by have := HST.out; omega) (by have := HST.out; omega) HD1.out (by omega) (mem_f HFL.out HT.out) (HRTK.out.keep HBW.out.size (fun b _ hlt => ⟨trivial, HBW.out.block _ hlt⟩))).mono ?_
      rintro e w3 ⟨rfl, hb3⟩
      have HB3 := Lib.hid hb3
      obtain ⟨y, hy⟩ : ∃ y, (Tree.mk op' nm' cm' m' ks').size = y := ⟨_, rfl⟩
      rw [hy]
      have HY := Lib.hid hy
      have hyl : z + y ≤ 1000000 := by have := HSZ.out; rw [HZ.out, hy] at this; exact this
      clear hb3 hy c0 c1 c2 c3 c4
      go_wp2_with fail
      exact ⟨⟨k + 1, by omega, int_eq (by rw [HTK.out, HZ.out, HY.out]; omega), by go_num, HB.out.trans (HB3.out.mono HB.out.size)⟩, by simp [intOf]; omega⟩
    · have : k = ks.length := by omega
      subst this
      have hk1 : ¬ ((ks.length : Nat) : Int) < ks.length := by omega
      rw [List.take_length]
      obtain ⟨z, hz⟩ : ∃ z, sizes ks = z := ⟨_, rfl⟩
      rw [hz]
      have HZ := Lib.hid hz
      clear hz
      go_wp2_with fail
      go_ret
      exact ⟨by rw [Tree.size, HZ.out]; exact ret_int (show (1 + (z : Int)) = ((1 + z : Nat) : Int) by omega), HBW.out⟩
set_option maxRecDepth 20000 in
set_option maxHeartbeats 2000000 in
theorem frm_6 (N : Nat) (ih : ∀ (t : Tree) (cs : List Value) (D : Int) (w : World), t.size ≤ N → t.size ≤ 900000 → (t.deep : Int) ≤ D → D ≤ 1000 → FormT t → RdTree true (fun _ => True) w cs t →
      Calls Tryd.prog 17 #[.agg cs.toArray, .int .i64 D] w fun e w' => e = .returned (.int .i64 t.size) ∧ Below w.heap.size w w')
    (op : Nat) (name : List UInt8) (cm m : Nat) (ks : List Tree) (A : Option Addr) (cap : Nat) (D : Int) (w : World) (hs1 : sizes ks ≤ N) (hs : sizes ks < 900000) (hd : (deeps ks : Int) + 1 ≤ D) (hD : D ≤ 1000) (hm : m ≤ 1000000) (hfl : FormL ks)
    (hkids : RdTree true (fun _ => True) w (tcs true op name cm m (.slice A ks.length cap)) (.mk op name cm m ks)) (ho : op = 6) (hn : name = []) (hk : 2 ≤ ks.length) :
    Calls Tryd.prog 17 #[.agg (tcs true op name cm m (.slice A ks.length cap)).toArray, .int .i64 D] w fun e w' => e = .returned (.int .i64 (Tree.mk op name cm m ks).size) ∧ Below w.heap.size w w' := by
  have IH := Lib.hid ih
  have hkids : Hid (KidsOf w A ks) := Lib.hid (kids_of hkids)
  have HKIDS := hkids
  have HFL := Lib.hid hfl
  have HD := Lib.hid hD
  have j1 : ¬ (m : Int) < 0 := by omega
  have j2 : ¬ (1000000 : Int) < m := by omega
  have hln := len_le_sizes ks
  have jd : (D == 0) = false := by simp; omega
  clear ih hkids hfl hm
  simp only [tcs]
  subst ho hn
  have i0 : (2 : Int) ≤ ks.length := by omega
  have i3 : max (2 : Int) (ks.length : Int) = ks.length := by omega
  go_enter Tryd.func17, Tryd.ntmps17
  go_wp2_with fail
  have HE0 : Hid ((w.alloc (.cells #[.int .i64 (6 : Nat), vs [], .int .i64 cm, .int .i64 m, .slice A ks.length cap] 29 (0, 0))).heap[w.heap.size]? = some (.cells #[.int .i64 (6 : Nat), vs [], .int .i64 cm, .int .i64 m, .slice A ks.length cap] 29 (0, 0))) := Lib.hid (alloc_at rfl)
  have HB0 : Hid (Below w.heap.size w (w.alloc (.cells #[.int .i64 (6 : Nat), vs [], .int .i64 cm, .int .i64 m, .slice A ks.length cap] 29 (0, 0)))) := Lib.hid ((Below.refl _ _).alloc (Nat.le_refl _) _)
  generalize (w.alloc (.cells #[.int .i64 (6 : Nat), vs [], .int .i64 cm, .int .i64 m, .slice A ks.length cap] 29 (0, 0))) = w5 at *
  go_loopw [7, 8] (fun v7 v8 wr => ∃ k : Nat, k ≤ ks.length ∧ v7 = .int .i64 ((1 + sizes (ks.take k) : Nat) : Int) ∧ v8 = .int .i64 k ∧ Below w5.heap.size w5 wr) (fun _ v8 _ => ks.length - (intOf v8).toNat)
  case atStart => exact ⟨0, Nat.zero_le _, by simp [sizes], rfl, Below.refl _ _⟩
  case round =>
    obtain ⟨k, hkl, rfl, rfl, hb⟩ := hrel
    have e1 : wr.heap[w.heap.size]? = some (.cells #[.int .i64 (6 : Nat), vs [], .int .i64 cm, .int .i64 m, .slice A ks.length cap] 29 (0, 0)) := (hb.block _ (lt_of_heap' HE0.out)).trans HE0.out
    have c0 := cell_of_blk (o := 0) e1 rfl
    have c1 := cell_of_blk (o := 1) e1 rfl
    have c2 := cell_of_blk (o := 2) e1 rfl
    have c3 := cell_of_blk (o := 3) e1 rfl
    have c4 := cell_of_blk (o := 4) e1 rfl
    have l1 := lt_of_heap' e1
    have HB := Lib.hid hb
    have HBW := Lib.hid (HB0.out.trans (hb.mono HB0.out.size))
    clear hb e1
    by_cases hlt : k < ks.length
    · obtain ⟨t, ht⟩ := get_of_lt hlt
      have hst2 := size_of_mem ht
      have HT := Lib.hid ht
      have HTK := Lib.hid (sizes_take ht)
      have hdd := deep_of_mem ht
      obtain h0 | ⟨b, off, rfl, -, hbs, hkd⟩ := HKIDS.out
      · rw [h0] at hlt; simp at hlt
      obtain ⟨cs, hcs, hrt⟩ := hkd.get ht
      have HRTK := Lib.hid hrt
      obtain ⟨op', nm', cm', m', ks'⟩ := t
      obtain ⟨A', cap', rfl, -, -⟩ := hrt
      have hbw : b < wr.heap.size := Nat.lt_of_lt_of_le hbs HBW.out.size
      have e0 : wr.cell? ⟨b, off + k * 5, none⟩ = some (.int .i64 op') := (HBW.out.cell (p := ⟨b, off + k * 5, none⟩) hbs).trans (hcs 0 _ rfl)
      have e1 : wr.cell? ⟨b, off + k * 5 + 1, none⟩ = some (vs nm') := (HBW.out.cell (p := ⟨b, off + k * 5 + 1, none⟩) hbs).trans (hcs 1 _ rfl)
      have e2 : wr.cell? ⟨b, off + k * 5 + 2, none⟩ = some (.int .i64 cm') := (HBW.out.cell (p := ⟨b, off + k * 5 + 2, none⟩) hbs).trans (hcs 2 _ rfl)
      have e3 : wr.cell? ⟨b, off + k * 5 + 3, none⟩ = some (.int .i64 m') := (HBW.out.cell (p := ⟨b, off + k * 5 + 3, none⟩) hbs).trans (hcs 3 _ rfl)
      have e4 : wr.cell? ⟨b, off + k * 5 + 4, none⟩ = some (.slice A' ks'.length cap') := (HBW.out.cell (p := ⟨b, off + k * 5 + 4, none⟩) hbs).trans (hcs 4 _ rfl)
      have hk1 : (k : Int) < ks.length := by omega
      have hd1 : ((Tree.mk op' nm' cm' m' ks').deep : Int) ≤ D - 1 := by omega
      have HD1 := Lib.hid hd1
      have hsz : sizes (ks.take k) + (Tree.mk op' nm' cm' m' ks').size ≤ 1000000 := by have := sizes_take_le ks (k + 1); have := HTK.out; omega
      have HSZ := Lib.hid hsz
      have HST := Lib.hid hst2
      have h8 := sizes_take_le ks k
      obtain ⟨z, hz⟩ : ∃ z, sizes (ks.take k) = z := ⟨_, rfl⟩
      rw [hz]
      have HZ := Lib.hid hz
      have hzl : z ≤ 1000000 := by omega
      clear ht hkd hcs hst2 hdd hd1 hsz hz h8 hlt
      go_wp2_with fail
      refine (IH.out (.mk op' nm' cm' m' ks') (tcs true op' nm' cm' m' (.slice A' ks'.length cap')) (D - 1) _ (by have := HST.out; omega) (by have := HST.out; omega) HD1.out (by omega) (mem_f HFL.out HT.out) (HRTK.out.keep HBW.out.size (fun b _ hlt => ⟨trivial, HBW.out.block _ hlt⟩))).mono ?_
      rintro e w3 ⟨rfl, hb3⟩
      have HB3 := Lib.hid hb3
      obtain ⟨y, hy⟩ : ∃ y, (Tree.mk op' nm' cm' m' ks').size = y := ⟨_, rfl⟩
      rw [hy]
      have HY := Lib.hid hy
      have hyl : z + y ≤ 1000000 := by have := HSZ.out; rw [HZ.out, hy] at this; exact this
      clear hb3 hy c0 c1 c2 c3 c4
      go_wp2_with fail
      exact ⟨⟨k + 1, by omega, int_eq (by rw [HTK.out, HZ.out, HY.out]; omega), by go_num, HB.out.trans (HB3.out.mono HB.out.size)⟩, by simp [intOf]; omega⟩
    · have : k = ks.length := by omega
      subst this
      have hk1 : ¬ ((ks.length : Nat) : Int) < ks.length := by omega
      rw [List.take_length]
      obtain ⟨z, hz⟩ : ∃ z, sizes ks = z := ⟨_, rfl⟩
      rw [hz]
      have HZ := Lib.hid hz
      clear hz
      go_wp2_with fail
      go_ret
      exact ⟨by rw [Tree.size, HZ.out]; exact ret_int (show (1 + (z : Int)) = ((1 + z : Nat) : Int) by omega), HBW.out⟩
set_option maxRecDepth 20000 in
set_option maxHeartbeats 2000000 in
theorem frm_7 (N : Nat) (ih : ∀ (t : Tree) (cs : List Value) (D : Int) (w : World), t.size ≤ N → t.size ≤ 900000 → (t.deep : Int) ≤ D → D ≤ 1000 → FormT t → RdTree true (fun _ => True) w cs t →
      Calls Tryd.prog 17 #[.agg cs.toArray, .int .i64 D] w fun e w' => e = .returned (.int .i64 t.size) ∧ Below w.heap.size w w')
    (op : Nat) (name : List UInt8) (cm m : Nat) (ks : List Tree) (A : Option Addr) (cap : Nat) (D : Int) (w : World) (hs1 : sizes ks ≤ N) (hs : sizes ks < 900000) (hd : (deeps ks : Int) + 1 ≤ D) (hD : D ≤ 1000) (hm : m ≤ 1000000) (hfl : FormL ks)
    (hkids : RdTree true (fun _ => True) w (tcs true op name cm m (.slice A ks.length cap)) (.mk op name cm m ks)) (ho : op = 7) (hn : name = []) (hk : 2 ≤ ks.length) :
    Calls Tryd.prog 17 #[.agg (tcs true op name cm m (.slice A ks.length cap)).toArray, .int .i64 D] w fun e w' => e = .returned (.int .i64 (Tree.mk op name cm m ks).size) ∧ Below w.heap.size w w' := by
  have IH := Lib.hid ih
  have hkids : Hid (KidsOf w A ks) := Lib.hid (kids_of hkids)
  have HKIDS := hkids
  have HFL := Lib.hid hfl
  have HD := Lib.hid hD
  have j1 : ¬ (m : Int) < 0 := by omega
  have j2 : ¬ (1000000 : Int) < m := by omega
  have hln := len_le_sizes ks
  have jd : (D == 0) = false := by simp; omega
  clear ih hkids hfl hm
  simp only [tcs]
  subst ho hn
  have i0 : (2 : Int) ≤ ks.length := by omega
  have i3 : max (2 : Int) (ks.length : Int) = ks.length := by omega
  go_enter Tryd.func17, Tryd.ntmps17
  go_wp2_with fail
  have HE0 : Hid ((w.alloc (.cells #[.int .i64 (7 : Nat), vs [], .int .i64 cm, .int .i64 m, .slice A ks.length cap] 29 (0, 0))).heap[w.heap.size]? = some (.cells #[.int .i64 (7 : Nat), vs [], .int .i64 cm, .int .i64 m, .slice A ks.length cap] 29 (0, 0))) := Lib.hid (alloc_at rfl)
  have HB0 : Hid (Below w.heap.size w (w.alloc (.cells #[.int .i64 (7 : Nat), vs [], .int .i64 cm, .int .i64 m, .slice A ks.length cap] 29 (0, 0)))) := Lib.hid ((Below.refl _ _).alloc (Nat.le_refl _) _)
  generalize (w.alloc (.cells #[.int .i64 (7 : Nat), vs [], .int .i64 cm, .int .i64 m, .slice A ks.length cap] 29 (0, 0))) = w5 at *
  go_loopw [7, 8] (fun v7 v8 wr => ∃ k : Nat, k ≤ ks.length ∧ v7 = .int .i64 ((1 + sizes (ks.take k) : Nat) : Int) ∧ v8 = .int .i64 k ∧ Below w5.heap.size w5 wr) (fun _ v8 _ => ks.length - (intOf v8).toNat)
  case atStart => exact ⟨0, Nat.zero_le _, by simp [sizes], rfl, Below.refl _ _⟩
  case round =>
    obtain ⟨k, hkl, rfl, rfl, hb⟩ := hrel
    have e1 : wr.heap[w.heap.size]? = some (.cells #[.int .i64 (7 : Nat), vs [], .int .i64 cm, .int .i64 m, .slice A ks.length cap] 29 (0, 0)) := (hb.block _ (lt_of_heap' HE0.out)).trans HE0.out
    have c0 := cell_of_blk (o := 0) e1 rfl
    have c1 := cell_of_blk (o := 1) e1 rfl
    have c2 := cell_of_blk (o := 2) e1 rfl
    have c3 := cell_of_blk (o := 3) e1 rfl
    have c4 := cell_of_blk (o := 4) e1 rfl
    have l1 := lt_of_heap' e1
    have HB := Lib.hid hb
    have HBW := Lib.hid (HB0.out.trans (hb.mono HB0.out.size))
    clear hb e1
    by_cases hlt : k < ks.length
    · obtain ⟨t, ht⟩ := get_of_lt hlt
      have hst2 := size_of_mem ht
      have HT := Lib.hid ht
      have HTK := Lib.hid (sizes_take ht)
      have hdd := deep_of_mem ht
      obtain h0 | ⟨b, off, rfl, -, hbs, hkd⟩ := HKIDS.out
      · rw [h0] at hlt; simp at hlt
      obtain ⟨cs, hcs, hrt⟩ := hkd.get ht
      have HRTK := Lib.hid hrt
      obtain ⟨op', nm', cm', m', ks'⟩ := t
      obtain ⟨A', cap', rfl, -, -⟩ := hrt
      have hbw : b < wr.heap.size := Nat.lt_of_lt_of_le hbs HBW.out.size
      have e0 : wr.cell? ⟨b, off + k * 5, none⟩ = some (.int .i64 op') := (HBW.out.cell (p := ⟨b, off + k * 5, none⟩) hbs).trans (hcs 0 _ rfl)
      have e1 : wr.cell? ⟨b, off + k * 5 + 1, none⟩ = some (vs nm') := (HBW.out.cell (p := ⟨b, off + k * 5 + 1, none⟩) hbs).trans (hcs 1 _ rfl)
      have e2 : wr.cell? ⟨b, off + k * 5 + 2, none⟩ = some (.int .i64 cm') := (HBW.out.cell (p := ⟨b, off + k * 5 + 2, none⟩) hbs).trans (hcs 2 _ rfl)
      have e3 : wr.cell? ⟨b, off + k * 5 + 3, none⟩ = some (.int .i64 m') := (HBW.out.cell (p := ⟨b, off + k * 5 + 3, none⟩) hbs).trans (hcs 3 _ rfl)
      have e4 : wr.cell? ⟨b, off + k * 5 + 4, none⟩ = some (.slice A' ks'.length cap') := (HBW.out.cell (p := ⟨b, off + k * 5 + 4, none⟩) hbs).trans (hcs 4 _ rfl)
      have hk1 : (k : Int) < ks.length := by omega
      have hd1 : ((Tree.mk op' nm' cm' m' ks').deep : Int) ≤ D - 1 := by omega
      have HD1 := Lib.hid hd1
      have hsz : sizes (ks.take k) + (Tree.mk op' nm' cm' m' ks').size ≤ 1000000 := by have := sizes_take_le ks (k + 1); have := HTK.out; omega
      have HSZ := Lib.hid hsz
      have HST := Lib.hid hst2
      have h8 := sizes_take_le ks k
      obtain ⟨z, hz⟩ : ∃ z, sizes (ks.take k) = z := ⟨_, rfl⟩
      rw [hz]
      have HZ := Lib.hid hz
      have hzl : z ≤ 1000000 := by omega
      clear ht hkd hcs hst2 hdd hd1 hsz hz h8 hlt
      go_wp2_with fail
      refine (IH.out (.mk op' nm' cm' m' ks') (tcs true op' nm' cm' m' (.slice A' ks'.length cap')) (D - 1) _ (by have := HST.out; omega) (by have := HST.out; omega) HD1.out (by omega) (mem_f HFL.out HT.out) (HRTK.out.keep HBW.out.size (fun b _ hlt => ⟨trivial, HBW.out.block _ hlt⟩))).mono ?_
      rintro e w3 ⟨rfl, hb3⟩
      have HB3 := Lib.hid hb3
      obtain ⟨y, hy⟩ : ∃ y, (Tree.mk op' nm' cm' m' ks').size = y := ⟨_, rfl⟩
      rw [hy]
      have HY := Lib.hid hy
      have hyl : z + y ≤ 1000000 := by have := HSZ.out; rw [HZ.out, hy] at this; exact this
      clear hb3 hy c0 c1 c2 c3 c4
      go_wp2_with fail
      exact ⟨⟨k + 1, by omega, int_eq (by rw [HTK.out, HZ.out, HY.out]; omega), by go_num, HB.out.trans (HB3.out.mono HB.out.size)⟩, by simp [intOf]; omega⟩
    · have : k = ks.length := by omega
      subst this
      have hk1 : ¬ ((ks.length : Nat) : Int) < ks.length := by omega
      rw [List.take_length]
      obtain ⟨z, hz⟩ : ∃ z, sizes ks = z := ⟨_, rfl⟩
      rw [hz]
      have HZ := Lib.hid hz
      clear hz
      go_wp2_with fail
      go_ret
      exact ⟨by rw [Tree.size, HZ.out]; exact ret_int (show (1 + (z : Int)) = ((1 + z : Nat) : Int) by omega), HBW.out⟩
theorem form_any : ∀ (N : Nat) (t : Tree) (cs : List Value) (D : Int) (w : World), t.size ≤ N → t.size ≤ 900000 → (t.deep : Int) ≤ D → D ≤ 1000 → FormT t → RdTree true (fun _ => True) w cs t →
    Calls Tryd.prog 17 #[.agg cs.toArray, .int .i64 D] w fun e w' => e = .returned (.int .i64 t.size) ∧ Below w.heap.size w w' := by
  intro N
  induction N with
  | zero =>
    intro t cs D w hN
    cases t
    simp [Tree.size] at hN
  | succ N ih =>
    intro t cs D w hN hs hd hD hf hrt
    obtain ⟨op, name, cm, m, ks⟩ := t
    have hrt2 := hrt
    obtain ⟨A, cap, rfl, -, -⟩ := hrt
    simp only [Tree.size] at hN hs
    simp only [Tree.deep] at hd
    obtain ⟨hm, hfl, hf⟩ := hf
    rcases hf with ⟨ho | ho, hn, hk⟩ | ⟨ho | ho, hn, hk⟩ | ⟨ho, hn, hk⟩ | ⟨ho | ho, hn, hk⟩
    · exact frm_1 N ih op name cm m ks A cap D w (by omega) (by omega) (by omega) hD hm hfl hrt2 ho hn (by rw [hk]; rfl)
    · exact frm_2 N ih op name cm m ks A cap D w (by omega) (by omega) (by omega) hD hm hfl hrt2 ho hn (by rw [hk]; rfl)
    · exact frm_3 N ih op name cm m ks A cap D w (by omega) (by omega) (by omega) hD hm hfl hrt2 ho hn (by rw [hk]; rfl)
    · exact frm_4 N ih op name cm m ks A cap D w (by omega) (by omega) (by omega) hD hm hfl hrt2 ho hn (by rw [hk]; rfl)
    · exact frm_5 N ih op name cm m ks A cap D w (by omega) (by omega) (by omega) hD hm hfl hrt2 ho hn hk
    · exact frm_6 N ih op name cm m ks A cap D w (by omega) (by omega) (by omega) hD hm hfl hrt2 ho hn hk
    · exact frm_7 N ih op name cm m ks A cap D w (by omega) (by omega) (by omega) hD hm hfl hrt2 ho hn hk
end Go.Proofs.YtcekampdldkjlaaDoor
