/- The law of joins. -/
import Derived.Test.YtpagkakplmeokaaDoorNJoinsM
set_option linter.unusedVariables false
set_option linter.unusedSimpArgs false
namespace Go.Proofs.YtpagkakplmeokaaDoor
open Go.RowKit
abbrev F5 (o : Nat) (n : List UInt8) (d m : Nat) (A : Option Addr) (l c : Nat) : Obj := .cells #[.int .i64 o, vs n, .int .i64 d, .int .i64 m, .slice A l c] 29 (0, 0)
theorem joins_mem {w5 W : World} {i : Int} {op : Nat} {csa csb : List Value} {ta tb : Tree} (hi : i = (op : Int)) (ha : RdTree true (fun _ => True) w5 csa ta) (hb : RdTree true (fun _ => True) w5 csb tb)
    (hW : (((w5.alloc (.cells (csa ++ csb).toArray 29 (0, 0))).alloc (.cells #[.int .i64 i, .string ⟨#[]⟩, .int .i64 0, .int .i64 0, .slice (some ⟨w5.heap.size, 0, none⟩) 2 2] 29 (0, 0))).alloc (.cells csa.toArray 29 (0, 0))).alloc (.cells #[.int .i64 5, .string ⟨#[]⟩, .int .i64 0, .int .i64 0, .slice (some ⟨w5.heap.size + 1 + 1, 0, none⟩) 1 1] 29 (0, 0)) = W) :
    Below w5.heap.size w5 W ∧ W.heap[w5.heap.size + 1]? = some (F5 op [] 0 0 (some ⟨w5.heap.size, 0, none⟩) 2 2) ∧ W.heap[w5.heap.size + 1 + 1 + 1]? = some (F5 5 [] 0 0 (some ⟨w5.heap.size + 1 + 1, 0, none⟩) 1 1) ∧
    RdTree true (fun _ => True) W (tcs true op [] 0 0 (.slice (some ⟨w5.heap.size, 0, none⟩) 2 2)) (.mk op [] 0 0 [ta, tb]) ∧ RdTree true (fun _ => True) W (tcs true 5 [] 0 0 (.slice (some ⟨w5.heap.size + 1 + 1, 0, none⟩) 1 1)) (.mk 5 [] 0 0 [ta]) := by
  subst hi
  have hb5 : Below w5.heap.size w5 W := by subst hW; exact ((((Below.refl _ _).alloc (Nat.le_refl _) _).alloc (by simp) _).alloc (by simp; omega) _).alloc (by simp; omega) _
  have ha' := ha.keep (S' := fun _ => True) hb5.size (fun b _ hlt => ⟨trivial, hb5.block _ hlt⟩)
  have hb' := hb.keep (S' := fun _ => True) hb5.size (fun b _ hlt => ⟨trivial, hb5.block _ hlt⟩)
  have r0 : W.heap[w5.heap.size]? = some (.cells (csa ++ csb).toArray 29 (0, 0)) := by subst hW; exact old_at (old_at (old_at (alloc_at rfl)))
  have r1 : W.heap[w5.heap.size + 1]? = some (F5 op [] 0 0 (some ⟨w5.heap.size, 0, none⟩) 2 2) := by subst hW; exact old_at (old_at (alloc_at (by simp)))
  have r2 : W.heap[w5.heap.size + 1 + 1]? = some (.cells csa.toArray 29 (0, 0)) := by subst hW; exact old_at (alloc_at (by simp))
  have r3 : W.heap[w5.heap.size + 1 + 1 + 1]? = some (F5 5 [] 0 0 (some ⟨w5.heap.size + 1 + 1, 0, none⟩) 1 1) := by subst hW; exact alloc_at (by simp)
  exact ⟨hb5, r1, r3, pair_rd trivial r0 ha' hb', single_rd trivial r2 ha'⟩
theorem pure_size {x : List UInt8} {a : Tree} (h : pureF x = some a) : a.size ≤ 200 := by
  unfold pureF at h
  split at h
  · cases h
  · split at h
    · cases h
    · rename_i p hp
      split at h
      · cases h
      · cases h; have := (parseF_good hp).cond.2; unfold boundC at this; split at this <;> omega
theorem size_two {a b : Tree} {op : Nat} (ha : a.size ≤ 200) (hb : b.size ≤ 200) : (Tree.mk op [] 0 0 [a, b]).size ≤ 1000000 := by simp [Tree.size, sizes]; omega
theorem size_one {a : Tree} {op : Nat} (ha : a.size ≤ 200) : (Tree.mk op [] 0 0 [a]).size ≤ 1000000 := by simp [Tree.size, sizes]; omega
theorem parse_outs {l : List UInt8} {p : Prov} (h : parseF l = .ok p) : outE l = 0 ∧ outP l = p := by
  unfold outE outP; simp only [h]; exact ⟨trivial, trivial⟩
theorem par_text (x : List UInt8) : (({ data := #[40] } : ByteArray) ++ { data := x.toArray } ++ { data := #[10, 41] }) = ⟨(parB x).toArray⟩ := by
  rw [show ({ data := #[40] } : ByteArray) = ⟨([40] : List UInt8).toArray⟩ from rfl, show ({ data := #[10, 41] } : ByteArray) = ⟨([10, 41] : List UInt8).toArray⟩ from rfl, text_app, text_app]; simp [parB]
set_option maxRecDepth 100000 in
set_option maxHeartbeats 4000000 in
theorem joins_any (x y : List UInt8) (b : Bool) (w : World) (m : Int) (hm : w.cell? ⟨2, 0, none⟩ = some (.int .i64 m)) :
    Calls Tryd.prog 5 #[vs x, vs y, .bool b] w fun e w' => e = .returned (.bool true) ∧ Below w.heap.size w w' := by
  have HM := Lib.hid hm
  clear hm
  go_enter Tryd.func5, Tryd.ntmps5
  go_wp2_with fail
  refine (head_any w m HM.out).mono ?_
  rintro e w1 ⟨rfl, hb1⟩
  have HB1 := Lib.hid hb1
  clear hb1
  go_wp2_with fail
  refine (pure_any x w1 m (maxc_below HM.out HB1.out)).mono ?_
  rintro e w2 ⟨hb2, c1, t1, rfl, hr1, ht1⟩
  have HB2 : Hid (Below w.heap.size w w2) := Lib.hid (HB1.out.trans (hb2.mono HB1.out.size))
  have HR1 := Lib.hid hr1
  have HT1 := Lib.hid ht1
  clear hb2 ht1
  obtain ⟨o1, n1, d1, m1, ks1⟩ := t1
  obtain ⟨A1, p1, rfl, -, -⟩ := hr1
  simp only [tcs]
  go_wp2_with fail
  have hal : Below w2.heap.size w2 (w2.alloc (F5 o1 n1 d1 m1 A1 ks1.length p1)) := (Below.refl _ _).alloc (Nat.le_refl _) _
  have HK3 := Lib.hid (heap_alloc_new w2 (F5 o1 n1 d1 m1 A1 ks1.length p1))
  have HB3 : Hid (Below w.heap.size w (w2.alloc (F5 o1 n1 d1 m1 A1 ks1.length p1))) := Lib.hid (HB2.out.trans (hal.mono HB2.out.size))
  have HR3 := Lib.hid (HR1.out.keep (S' := fun _ => True) hal.size (fun b _ hlt => ⟨trivial, hal.block _ hlt⟩))
  clear hal HR1
  generalize w2.alloc (F5 o1 n1 d1 m1 A1 ks1.length p1) = w3 at *
  refine (pure_any y w3 m (maxc_below HM.out HB3.out)).mono ?_
  rintro e w4 ⟨hb4, c2, t2, rfl, hr2, ht2⟩
  have HB4 : Hid (Below w.heap.size w w4) := Lib.hid (HB3.out.trans (hb4.mono HB3.out.size))
  have HR2 := Lib.hid hr2
  have HT2 := Lib.hid ht2
  obtain ⟨o2, n2, d2, m2, ks2⟩ := t2
  obtain ⟨A2, p2, rfl, -, -⟩ := hr2
  simp only [tcs]
  by_cases hp1 : purB x = true
  case neg =>
    rw [Bool.eq_false_iff.2 hp1]
    go_wp2_with fail
    go_ret
    exact ⟨rfl, HB4.out.alloc HB4.out.size _⟩
  by_cases hp2 : purB y = true
  case neg =>
    rw [hp1, Bool.eq_false_iff.2 hp2]
    go_wp2_with fail
    go_ret
    exact ⟨rfl, HB4.out.alloc HB4.out.size _⟩
  rw [hp1, hp2]
  have HX := Lib.hid (purB_some hp1)
  have HY := Lib.hid (purB_some hp2)
  rw [← HT1.out hp1] at HX
  rw [← HT2.out hp2] at HY
  have hal : Below w4.heap.size w4 (w4.alloc (F5 o2 n2 d2 m2 A2 ks2.length p2)) := (Below.refl _ _).alloc (Nat.le_refl _) _
  have hb5 := hb4.trans (hal.mono hb4.size)
  have HK5 := Lib.hid (heap_alloc_new w4 (F5 o2 n2 d2 m2 A2 ks2.length p2))
  have hk3 := (hb5.block _ (lt_of_heap' HK3.out)).trans HK3.out
  have HK3' := Lib.hid hk3
  have HB5 : Hid (Below w.heap.size w (w4.alloc (F5 o2 n2 d2 m2 A2 ks2.length p2))) := Lib.hid (HB4.out.trans (hal.mono HB4.out.size))
  have HR5 := Lib.hid (HR2.out.keep (S' := fun _ => True) hal.size (fun b _ hlt => ⟨trivial, hal.block _ hlt⟩))
  have HR35 := Lib.hid (HR3.out.keep (S' := fun _ => True) hb5.size (fun b _ hlt => ⟨trivial, hb5.block _ hlt⟩))
  have hx2 := (pureF_ok HX.out).choose_spec.2.2.2
  have hy2 := (pureF_ok HY.out).choose_spec.2.2.2
  clear hal hb4 hb5 HK3 ht2 HT1 HT2 HR2 HR3 hp1 hp2 hk3
  go_upto_region 6 with fail
  generalize hw5 : w4.alloc (F5 o2 n2 d2 m2 A2 ks2.length p2) = w5 at *
  clear hw5
  have q1 : ¬ 9223372036854775807 < 1 + x.length := by omega
  have q2 : ¬ 9223372036854775807 < 1 + x.length + 2 := by omega
  have q3 : ¬ 9223372036854775807 < 1 + y.length := by omega
  have q4 : ¬ 9223372036854775807 < 1 + y.length + 2 := by omega
  have a0 := cell_of_blk (o := 0) HK3'.out rfl
  have a1 := cell_of_blk (o := 1) HK3'.out rfl
  have a2 := cell_of_blk (o := 2) HK3'.out rfl
  have a3 := cell_of_blk (o := 3) HK3'.out rfl
  have a4 := cell_of_blk (o := 4) HK3'.out rfl
  have e0 := cell_of_blk (o := 0) HK5.out rfl
  have e1 := cell_of_blk (o := 1) HK5.out rfl
  have e2 := cell_of_blk (o := 2) HK5.out rfl
  have e3 := cell_of_blk (o := 3) HK5.out rfl
  have e4 := cell_of_blk (o := 4) HK5.out rfl
  have al := lt_of_heap' HK3'.out
  have el := lt_of_heap' HK5.out
  obtain ⟨p, hp1, hp2⟩ := joins_one HX.out
  obtain ⟨hpe, hpp⟩ := parse_outs hp1
  have HPE := Lib.hid hpe
  have HPC : Hid ((outP (ruleB (parB x))).cond = .mk o1 n1 d1 m1 ks1) := Lib.hid (by rw [hpp]; exact hp2)
  clear hp1 hp2 hpe hpp
  cases b
  · go_wp2_with fail
    generalize hW : World.alloc (World.alloc (World.alloc (World.alloc w5 _) _) _) _ = w6
    obtain ⟨hb6, k1, k3, g1, g3⟩ := joins_mem (op := 6) rfl HR35.out HR5.out hW
    have HB6 := Lib.hid (HB5.out.trans (hb6.mono HB5.out.size))
    have HA6 := Lib.hid ((hb6.block _ (lt_of_heap' HK3'.out)).trans HK3'.out)
    have HR6 := Lib.hid (HR35.out.keep (S' := fun _ => True) hb6.size (fun b _ hlt => ⟨trivial, hb6.block _ hlt⟩))
    have K1 := Lib.hid k1
    have K3 := Lib.hid k3
    have G1 := Lib.hid g1
    have G3 := Lib.hid g3
    clear hW hb6 k1 k3 g1 g3 a0 a1 a2 a3 a4 e0 e1 e2 e3 e4 al el q1 q2 q3 q4
    rw [par_text, par_text]
    have hpx : (parB x).length = x.length + 3 := by simp [parB]
    have hpy : (parB y).length = y.length + 3 := by simp [parB]
    have HPX := Lib.hid hpx
    have HPY := Lib.hid hpy
    clear hpx hpy
    refine (rule_any (parB x) _ (by rw [HPX.out]; omega)).mono ?_
    rintro e w7 ⟨rfl, rfl⟩
    go_wp2_with fail
    refine (parse_out (ruleB (parB x)) _ m (maxc_below HM.out HB6.out)).mono ?_
    rintro e w7 ⟨hb7, c7, rfl, hr7⟩
    obtain ⟨st7, -⟩ := prov_io hr7
    rw [HPE.out]
    obtain ⟨cc, hcr, hcc⟩ := cond_cells hr7
    have hal : Below w7.heap.size w7 (w7.alloc (.cells c7.toArray 35 (0, 0))) := (Below.refl _ _).alloc (Nat.le_refl _) _
    have hb8 := hb7.trans (hal.mono hb7.size)
    have HB68 := Lib.hid hb8
    have HB8 : Hid (Below w.heap.size w (w7.alloc (.cells c7.toArray 35 (0, 0)))) := Lib.hid (HB6.out.trans (hb8.mono HB6.out.size))
    have hk8 := heap_alloc_new w7 (.cells c7.toArray 35 (0, 0))
    have ha8 := (hb8.block _ (lt_of_heap' HA6.out)).trans HA6.out
    have HCR : Hid (RdTree true (fun _ => True) (w7.alloc (.cells c7.toArray 35 (0, 0))) cc (.mk o1 n1 d1 m1 ks1)) := Lib.hid (by rw [← HPC.out]; exact hcr.keep hal.size (fun b _ hlt => ⟨trivial, hal.block _ hlt⟩))
    have HR8 := Lib.hid (HR6.out.keep (S' := fun _ => True) hb8.size (fun b _ hlt => ⟨trivial, hb8.block _ hlt⟩))
    obtain ⟨A', cap', rfl, -, -⟩ := HCR.out
    have u5 := cell_of_blk (o := 5) hk8 (hcc 0 _ rfl)
    have u6 := cell_of_blk (o := 6) hk8 (hcc 1 _ rfl)
    have u7 := cell_of_blk (o := 7) hk8 (hcc 2 _ rfl)
    have u8 := cell_of_blk (o := 8) hk8 (hcc 3 _ rfl)
    have u9 := cell_of_blk (o := 9) hk8 (hcc 4 _ rfl)
    have a0 := cell_of_blk (o := 0) ha8 rfl
    have a1 := cell_of_blk (o := 1) ha8 rfl
    have a2 := cell_of_blk (o := 2) ha8 rfl
    have a3 := cell_of_blk (o := 3) ha8 rfl
    have a4 := cell_of_blk (o := 4) ha8 rfl
    have al := lt_of_heap' ha8
    have ul := lt_of_heap' hk8
    clear hal hb7 hb8 hk8 ha8 hcc hcr hr7
    go_upto_region 15 with fail
    generalize hw8 : w7.alloc (.cells c7.toArray 35 (0, 0)) = w8 at *
    clear hw8
    go_wp2_with fail
    refine (same_f (Tree.mk o1 n1 d1 m1 ks1).size (.mk o1 n1 d1 m1 ks1) (tcs true o1 n1 d1 m1 (.slice A' ks1.length cap')) (tcs true o1 n1 d1 m1 (.slice A1 ks1.length p1)) w8 (Nat.le_refl _) (Nat.le_trans (pure_size HX.out) (by decide)) HCR.out HR8.out).mono ?_
    rintro e w9 ⟨rfl, hb9⟩
    have HB69 : Hid (Below w6.heap.size w6 w9) := Lib.hid (HB68.out.trans (hb9.mono HB68.out.size))
    have HB9 : Hid (Below w.heap.size w w9) := Lib.hid (HB8.out.trans (hb9.mono HB8.out.size))
    have k9 := (HB69.out.block _ (lt_of_heap' K1.out)).trans K1.out
    have b0 := cell_of_blk (o := 0) k9 rfl
    have b1 := cell_of_blk (o := 1) k9 rfl
    have b2 := cell_of_blk (o := 2) k9 rfl
    have b3 := cell_of_blk (o := 3) k9 rfl
    have b4 := cell_of_blk (o := 4) k9 rfl
    have bl := lt_of_heap' k9
    have q5 : ¬ 9223372036854775807 < (parB x).length + 5 := by rw [HPX.out]; omega
    have q6 : ¬ 9223372036854775807 < (parB x).length + 5 + (parB y).length := by rw [HPX.out, HPY.out]; omega
    have q7 : ¬ 9223372036854775807 < 4 + (parB x).length := by rw [HPX.out]; omega
    clear hb9 k9 u5 u6 u7 u8 u9 a0 a1 a2 a3 a4 al ul
    go_wp2_with fail
    have htx : (({ data := (parB x).toArray } : ByteArray) ++ { data := #[32, 97, 110, 100, 32] } ++ { data := (parB y).toArray }) = ⟨(parB x ++ ([32, 97, 110, 100, 32] ++ parB y)).toArray⟩ := by
      rw [show ({ data := #[32, 97, 110, 100, 32] } : ByteArray) = ⟨([32, 97, 110, 100, 32] : List UInt8).toArray⟩ from rfl, text_app, text_app, List.append_assoc]
    rw [htx]
    clear htx
    have hs1 : (Tree.mk 6 [] 0 0 [.mk o1 n1 d1 m1 ks1, .mk o2 n2 d2 m2 ks2]).size ≤ 1000000 := size_two (pure_size HX.out) (pure_size HY.out)
    have hs2 : (Tree.mk 5 [] 0 0 [.mk o1 n1 d1 m1 ks1]).size ≤ 1000000 := size_one (pure_size HX.out)
    have G19 := Lib.hid (G1.out.keep (S' := fun _ => True) HB69.out.size (fun b _ hlt => ⟨trivial, HB69.out.block _ hlt⟩))
    refine (made_any (parB x ++ ([32, 97, 110, 100, 32] ++ parB y)) _ _ (tcs true 6 [] 0 0 (.slice (some ⟨w5.heap.size, 0, none⟩) 2 2)) w9 m (maxc_below HM.out HB9.out) (by simp only [List.length_append, List.length_cons, List.length_nil]; rw [HPX.out, HPY.out]; omega) hs1 G19.out (joins_and HX.out HY.out) rfl).mono ?_
    rintro e wA ⟨rfl, hbA⟩
    have HB6A : Hid (Below w6.heap.size w6 wA) := Lib.hid (HB69.out.trans (hbA.mono HB69.out.size))
    have HBA : Hid (Below w.heap.size w wA) := Lib.hid (HB9.out.trans (hbA.mono HB9.out.size))
    have kA := (HB6A.out.block _ (lt_of_heap' K3.out)).trans K3.out
    have c0 := cell_of_blk (o := 0) kA rfl
    have c1' := cell_of_blk (o := 1) kA rfl
    have c2' := cell_of_blk (o := 2) kA rfl
    have c3' := cell_of_blk (o := 3) kA rfl
    have c4' := cell_of_blk (o := 4) kA rfl
    have cl := lt_of_heap' kA
    have G3A := Lib.hid (G3.out.keep (S' := fun _ => True) HB6A.out.size (fun b _ hlt => ⟨trivial, HB6A.out.block _ hlt⟩))
    clear hbA kA b0 b1 b2 b3 b4 bl q5 q6 hs1
    go_wp2_with fail
    have htx : (({ data := #[110, 111, 116, 32] } : ByteArray) ++ { data := (parB x).toArray }) = ⟨([110, 111, 116, 32] ++ parB x).toArray⟩ := by
      rw [show ({ data := #[110, 111, 116, 32] } : ByteArray) = ⟨([110, 111, 116, 32] : List UInt8).toArray⟩ from rfl, text_app]
    rw [htx]
    clear htx
    refine (made_any ([110, 111, 116, 32] ++ parB x) _ _ (tcs true 5 [] 0 0 (.slice (some ⟨w5.heap.size + 1 + 1, 0, none⟩) 1 1)) wA m (maxc_below HM.out HBA.out) (by simp only [List.length_append, List.length_cons, List.length_nil]; rw [HPX.out]; omega) hs2 G3A.out (joins_not HX.out) rfl).mono ?_
    rintro e wB ⟨rfl, hbB⟩
    have HBB : Hid (Below w.heap.size w wB) := Lib.hid (HBA.out.trans (hbB.mono HBA.out.size))
    go_wp2_with fail
    go_ret
    exact ⟨rfl, HBB.out⟩
  · go_wp2_with fail
    generalize hW : World.alloc (World.alloc (World.alloc (World.alloc w5 _) _) _) _ = w6
    obtain ⟨hb6, k1, k3, g1, g3⟩ := joins_mem (op := 7) rfl HR35.out HR5.out hW
    have HB6 := Lib.hid (HB5.out.trans (hb6.mono HB5.out.size))
    have HA6 := Lib.hid ((hb6.block _ (lt_of_heap' HK3'.out)).trans HK3'.out)
    have HR6 := Lib.hid (HR35.out.keep (S' := fun _ => True) hb6.size (fun b _ hlt => ⟨trivial, hb6.block _ hlt⟩))
    have K1 := Lib.hid k1
    have K3 := Lib.hid k3
    have G1 := Lib.hid g1
    have G3 := Lib.hid g3
    clear hW hb6 k1 k3 g1 g3 a0 a1 a2 a3 a4 e0 e1 e2 e3 e4 al el q1 q2 q3 q4
    rw [par_text, par_text]
    have hpx : (parB x).length = x.length + 3 := by simp [parB]
    have hpy : (parB y).length = y.length + 3 := by simp [parB]
    have HPX := Lib.hid hpx
    have HPY := Lib.hid hpy
    clear hpx hpy
    refine (rule_any (parB x) _ (by rw [HPX.out]; omega)).mono ?_
    rintro e w7 ⟨rfl, rfl⟩
    go_wp2_with fail
    refine (parse_out (ruleB (parB x)) _ m (maxc_below HM.out HB6.out)).mono ?_
    rintro e w7 ⟨hb7, c7, rfl, hr7⟩
    obtain ⟨st7, -⟩ := prov_io hr7
    rw [HPE.out]
    obtain ⟨cc, hcr, hcc⟩ := cond_cells hr7
    have hal : Below w7.heap.size w7 (w7.alloc (.cells c7.toArray 35 (0, 0))) := (Below.refl _ _).alloc (Nat.le_refl _) _
    have hb8 := hb7.trans (hal.mono hb7.size)
    have HB68 := Lib.hid hb8
    have HB8 : Hid (Below w.heap.size w (w7.alloc (.cells c7.toArray 35 (0, 0)))) := Lib.hid (HB6.out.trans (hb8.mono HB6.out.size))
    have hk8 := heap_alloc_new w7 (.cells c7.toArray 35 (0, 0))
    have ha8 := (hb8.block _ (lt_of_heap' HA6.out)).trans HA6.out
    have HCR : Hid (RdTree true (fun _ => True) (w7.alloc (.cells c7.toArray 35 (0, 0))) cc (.mk o1 n1 d1 m1 ks1)) := Lib.hid (by rw [← HPC.out]; exact hcr.keep hal.size (fun b _ hlt => ⟨trivial, hal.block _ hlt⟩))
    have HR8 := Lib.hid (HR6.out.keep (S' := fun _ => True) hb8.size (fun b _ hlt => ⟨trivial, hb8.block _ hlt⟩))
    obtain ⟨A', cap', rfl, -, -⟩ := HCR.out
    have u5 := cell_of_blk (o := 5) hk8 (hcc 0 _ rfl)
    have u6 := cell_of_blk (o := 6) hk8 (hcc 1 _ rfl)
    have u7 := cell_of_blk (o := 7) hk8 (hcc 2 _ rfl)
    have u8 := cell_of_blk (o := 8) hk8 (hcc 3 _ rfl)
    have u9 := cell_of_blk (o := 9) hk8 (hcc 4 _ rfl)
    have a0 := cell_of_blk (o := 0) ha8 rfl
    have a1 := cell_of_blk (o := 1) ha8 rfl
    have a2 := cell_of_blk (o := 2) ha8 rfl
    have a3 := cell_of_blk (o := 3) ha8 rfl
    have a4 := cell_of_blk (o := 4) ha8 rfl
    have al := lt_of_heap' ha8
    have ul := lt_of_heap' hk8
    clear hal hb7 hb8 hk8 ha8 hcc hcr hr7
    go_upto_region 15 with fail
    generalize hw8 : w7.alloc (.cells c7.toArray 35 (0, 0)) = w8 at *
    clear hw8
    go_wp2_with fail
    refine (same_f (Tree.mk o1 n1 d1 m1 ks1).size (.mk o1 n1 d1 m1 ks1) (tcs true o1 n1 d1 m1 (.slice A' ks1.length cap')) (tcs true o1 n1 d1 m1 (.slice A1 ks1.length p1)) w8 (Nat.le_refl _) (Nat.le_trans (pure_size HX.out) (by decide)) HCR.out HR8.out).mono ?_
    rintro e w9 ⟨rfl, hb9⟩
    have HB69 : Hid (Below w6.heap.size w6 w9) := Lib.hid (HB68.out.trans (hb9.mono HB68.out.size))
    have HB9 : Hid (Below w.heap.size w w9) := Lib.hid (HB8.out.trans (hb9.mono HB8.out.size))
    have k9 := (HB69.out.block _ (lt_of_heap' K1.out)).trans K1.out
    have b0 := cell_of_blk (o := 0) k9 rfl
    have b1 := cell_of_blk (o := 1) k9 rfl
    have b2 := cell_of_blk (o := 2) k9 rfl
    have b3 := cell_of_blk (o := 3) k9 rfl
    have b4 := cell_of_blk (o := 4) k9 rfl
    have bl := lt_of_heap' k9
    have q5 : ¬ 9223372036854775807 < (parB x).length + 4 := by rw [HPX.out]; omega
    have q6 : ¬ 9223372036854775807 < (parB x).length + 4 + (parB y).length := by rw [HPX.out, HPY.out]; omega
    have q7 : ¬ 9223372036854775807 < 4 + (parB x).length := by rw [HPX.out]; omega
    clear hb9 k9 u5 u6 u7 u8 u9 a0 a1 a2 a3 a4 al ul
    go_wp2_with fail
    have htx : (({ data := (parB x).toArray } : ByteArray) ++ { data := #[32, 111, 114, 32] } ++ { data := (parB y).toArray }) = ⟨(parB x ++ ([32, 111, 114, 32] ++ parB y)).toArray⟩ := by
      rw [show ({ data := #[32, 111, 114, 32] } : ByteArray) = ⟨([32, 111, 114, 32] : List UInt8).toArray⟩ from rfl, text_app, text_app, List.append_assoc]
    rw [htx]
    clear htx
    have hs1 : (Tree.mk 7 [] 0 0 [.mk o1 n1 d1 m1 ks1, .mk o2 n2 d2 m2 ks2]).size ≤ 1000000 := size_two (pure_size HX.out) (pure_size HY.out)
    have hs2 : (Tree.mk 5 [] 0 0 [.mk o1 n1 d1 m1 ks1]).size ≤ 1000000 := size_one (pure_size HX.out)
    have G19 := Lib.hid (G1.out.keep (S' := fun _ => True) HB69.out.size (fun b _ hlt => ⟨trivial, HB69.out.block _ hlt⟩))
    refine (made_any (parB x ++ ([32, 111, 114, 32] ++ parB y)) _ _ (tcs true 7 [] 0 0 (.slice (some ⟨w5.heap.size, 0, none⟩) 2 2)) w9 m (maxc_below HM.out HB9.out) (by simp only [List.length_append, List.length_cons, List.length_nil]; rw [HPX.out, HPY.out]; omega) hs1 G19.out (joins_or HX.out HY.out) rfl).mono ?_
    rintro e wA ⟨rfl, hbA⟩
    have HB6A : Hid (Below w6.heap.size w6 wA) := Lib.hid (HB69.out.trans (hbA.mono HB69.out.size))
    have HBA : Hid (Below w.heap.size w wA) := Lib.hid (HB9.out.trans (hbA.mono HB9.out.size))
    have kA := (HB6A.out.block _ (lt_of_heap' K3.out)).trans K3.out
    have c0 := cell_of_blk (o := 0) kA rfl
    have c1' := cell_of_blk (o := 1) kA rfl
    have c2' := cell_of_blk (o := 2) kA rfl
    have c3' := cell_of_blk (o := 3) kA rfl
    have c4' := cell_of_blk (o := 4) kA rfl
    have cl := lt_of_heap' kA
    have G3A := Lib.hid (G3.out.keep (S' := fun _ => True) HB6A.out.size (fun b _ hlt => ⟨trivial, HB6A.out.block _ hlt⟩))
    clear hbA kA b0 b1 b2 b3 b4 bl q5 q6 hs1
    go_wp2_with fail
    have htx : (({ data := #[110, 111, 116, 32] } : ByteArray) ++ { data := (parB x).toArray }) = ⟨([110, 111, 116, 32] ++ parB x).toArray⟩ := by
      rw [show ({ data := #[110, 111, 116, 32] } : ByteArray) = ⟨([110, 111, 116, 32] : List UInt8).toArray⟩ from rfl, text_app]
    rw [htx]
    clear htx
    refine (made_any ([110, 111, 116, 32] ++ parB x) _ _ (tcs true 5 [] 0 0 (.slice (some ⟨w5.heap.size + 1 + 1, 0, none⟩) 1 1)) wA m (maxc_below HM.out HBA.out) (by simp only [List.length_append, List.length_cons, List.length_nil]; rw [HPX.out]; omega) hs2 G3A.out (joins_not HX.out) rfl).mono ?_
    rintro e wB ⟨rfl, hbB⟩
    have HBB : Hid (Below w.heap.size w wB) := Lib.hid (HBA.out.trans (hbB.mono HBA.out.size))
    go_wp2_with fail
    go_ret
    exact ⟨rfl, HBB.out⟩
end Go.Proofs.YtpagkakplmeokaaDoor
