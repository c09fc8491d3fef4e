/- The law's check of the chapter's examples. -/
import Derived.Test.YtpagkakplmeokaaDoorNSame
import Derived.Deep.CutRange
set_option linter.unusedVariables false
set_option linter.unusedSimpArgs false
namespace Go.Proofs.YtpagkakplmeokaaDoor
open Go.RowKit
abbrev hd0 : List UInt8 := [97, 99, 116, 32, 116, 97, 120, 49, 58, 32, 97, 110, 115, 119, 101, 114, 32, 116, 97, 120, 32, 105, 115, 32, 53, 32, 105, 102, 32, 105, 110, 99, 111, 109, 101, 32, 62, 32, 51, 32, 97, 110, 100, 32, 110, 111, 116, 32, 112, 111, 111, 114, 46]
abbrev hd1 : List UInt8 := [98, 121, 108, 97, 119, 32, 112, 58, 32, 100, 101, 102, 105, 110, 101, 32, 112, 111, 111, 114, 32, 105, 102, 32, 105, 110, 99, 111, 109, 101, 32, 60, 32, 50, 32, 111, 114, 32, 105, 110, 99, 111, 109, 101, 32, 60, 32, 52, 32, 97, 110, 100, 32, 109, 101, 109, 98, 101, 114, 32, 61, 32, 49, 32, 102, 114, 111, 109, 32, 111, 114, 100, 101, 114, 32, 111, 49, 32, 117, 110, 116, 105, 108, 32, 100, 97, 121, 32, 53, 48, 46]
abbrev hd2 : List UInt8 := [97, 99, 116, 32, 97, 58, 32, 97, 110, 115, 119, 101, 114, 32, 113, 32, 105, 115, 32, 49, 48, 48, 48, 48, 48, 49, 46]
abbrev hd3 : List UInt8 := [97, 99, 116, 32, 105, 115, 58, 32, 100, 101, 102, 105, 110, 101, 32, 120, 46]
abbrev hd4 : List UInt8 := [97, 99, 116, 32, 97, 58, 32, 100, 101, 102, 105, 110, 101, 32, 120]
def hpA : Prov := ⟨[116, 97, 120, 49], 2, 2, [116, 97, 120], 5, .mk 6 [] 0 0 [.mk 3 [105, 110, 99, 111, 109, 101] 5 3 [], .mk 5 [] 0 0 [.mk 4 [112, 111, 111, 114] 0 0 []]], [], .mk 1 [] 0 0 [], .mk 2 [] 0 0 [], .mk 2 [] 0 0 []⟩
def hpB : Prov := ⟨[112], 4, 1, [112, 111, 111, 114], 0, .mk 7 [] 0 0 [.mk 3 [105, 110, 99, 111, 109, 101] 3 2 [], .mk 6 [] 0 0 [.mk 3 [105, 110, 99, 111, 109, 101] 3 4 [], .mk 3 [109, 101, 109, 98, 101, 114] 1 1 []]], [], .mk 4 [111, 49] 0 0 [], .mk 3 [] 0 50 [], .mk 2 [] 0 0 []⟩
set_option maxRecDepth 100000
theorem hd0_ok : parseF hd0 = .ok hpA := by kernel_rfl
theorem hd1_ok : parseF hd1 = .ok hpB := by kernel_rfl
theorem hd2_no : parseF hd2 = .error (10, 19) := by kernel_rfl
theorem hd3_no : parseF hd3 = .error (5, 4) := by kernel_rfl
theorem hd4_no : parseF hd4 = .error (6, 15) := by kernel_rfl
theorem maxc_below {w w' : World} {m : Int} (hm : w.cell? ⟨2, 0, none⟩ = some (.int .i64 m)) (hb : Below w.heap.size w w') : w'.cell? ⟨2, 0, none⟩ = some (.int .i64 m) :=
  (hb.cell (p := ⟨_, 0, none⟩) (World.block_lt_of_cell? _ _ hm)).trans hm
theorem prov_io {base : Nat} {W : World} {cs : List Value} {P : Prov} (h : RdProv base W cs P) : (∀ W b, rowStore W b cs.toArray (some (.cells zeroA 35 (0, 0))) = .ok () (W.setRow b cs.toArray)) ∧ (∀ W b t fr, rowLoadP W b (some (.cells cs.toArray t fr)) = .ok (.agg cs.toArray) W) := by
  obtain ⟨h1, h2⟩ := prov_cells h
  exact ⟨fun W b => rowStore_cells W b cs zeroA _ rfl (by rw [List.size_toArray, h1]) h2, fun W b t fr => rowLoadP_cells W b cs t fr (by rw [List.size_toArray, h1])⟩
theorem RdProv.below {base n : Nat} {W W' : World} {cs : List Value} {P : Prov} (h : RdProv base W cs P) (hb : Below W.heap.size W W') : RdProv 0 W' cs P := h.weak (Nat.zero_le _) hb.size (fun k _ hk => hb.block k hk)
theorem pair_rd {S : Nat → Prop} {Y : World} {b op : Nat} {csa csb : List Value} {ta tb : Tree} {ty : TypeId} (hS : S b) (h : Y.heap[b]? = some (.cells (csa ++ csb).toArray ty (0, 0))) (ha : RdTree true S Y csa ta) (hb : RdTree true S Y csb tb) : RdTree true S Y (tcs true op [] 0 0 (.slice (some ⟨b, 0, none⟩) 2 2)) (.mk op [] 0 0 [ta, tb]) := by
  refine ⟨_, _, rfl, Nat.le_refl _, .inr ⟨b, 0, rfl, hS, lt_of_heap' h, kids_of_row (css := [csa, csb]) rfl (fun i c t h1 h2 => ?_) (fun j v hv => ?_)⟩⟩
  · cases i with
    | zero => simp at h1 h2; subst h1 h2; exact ha
    | succ i => cases i with
      | zero => simp at h1 h2; subst h1 h2; exact hb
      | succ i => simp at h1
  · rw [Nat.zero_add]; exact cell_of_blk h (by simpa using hv)
theorem single_rd {S : Nat → Prop} {Y : World} {b op : Nat} {csa : List Value} {ta : Tree} {ty : TypeId} (hS : S b) (h : Y.heap[b]? = some (.cells csa.toArray ty (0, 0))) (ha : RdTree true S Y csa ta) : RdTree true S Y (tcs true op [] 0 0 (.slice (some ⟨b, 0, none⟩) 1 1)) (.mk op [] 0 0 [ta]) := by
  refine ⟨_, _, rfl, Nat.le_refl _, .inr ⟨b, 0, rfl, hS, lt_of_heap' h, kids_of_row (css := [csa]) rfl (fun i c t h1 h2 => ?_) (fun j v hv => ?_)⟩⟩
  · cases i with
    | zero => simp at h1 h2; subst h1 h2; exact ha
    | succ i => simp at h1
  · rw [Nat.zero_add]; exact cell_of_blk h (by simpa using hv)
theorem one_rd (Y : World) (k : Nat) (h2 : Y.heap[k + 1 + 1]? = some (.cells #[.int .i64 (4 : Nat), vs [112, 111, 111, 114], .int .i64 (0 : Nat), .int .i64 (0 : Nat), .slice none 0 0] 29 (0, 0))) (h5 : Y.heap[k + 1 + 1 + 1 + 1 + 1]? = some (.cells #[.int .i64 (3 : Nat), vs [105, 110, 99, 111, 109, 101], .int .i64 (5 : Nat), .int .i64 (3 : Nat), .slice none 0 0, .int .i64 (5 : Nat), vs [], .int .i64 (0 : Nat), .int .i64 (0 : Nat), .slice (some ⟨k + 1 + 1, 0, none⟩) 1 1] 29 (0, 0))) :
    RdProv 0 Y [vs [116, 97, 120, 49], .int .i64 (2 : Nat), .int .i64 (2 : Nat), vs [116, 97, 120], .int .i64 (5 : Nat), .int .i64 (6 : Nat), vs [], .int .i64 (0 : Nat), .int .i64 (0 : Nat), .slice (some ⟨k + 1 + 1 + 1 + 1 + 1, 0, none⟩) 2 2, .slice none 0 0, .int .i64 (1 : Nat), vs [], .int .i64 (0 : Nat), .slice none 0 0, .int .i64 (2 : Nat), vs [], .int .i64 (0 : Nat), .slice none 0 0, .int .i64 (2 : Nat), vs [], .int .i64 (0 : Nat), .slice none 0 0] hpA := by
  refine ⟨tcs true 6 [] 0 0 (.slice (some ⟨k + 1 + 1 + 1 + 1 + 1, 0, none⟩) 2 2), none, 0, tcs false 1 [] 0 0 (.slice none 0 0), tcs false 2 [] 0 0 (.slice none 0 0), tcs false 2 [] 0 0 (.slice none 0 0), rfl, Nat.le_refl _, ?_, ⟨Sl.nil, fun b o e => by cases e⟩, RdTree.leaf _ _ _ _ _ _, RdTree.leaf _ _ _ _ _ _, RdTree.leaf _ _ _ _ _ _⟩
  exact pair_rd (csa := tcs true 3 [105, 110, 99, 111, 109, 101] 5 3 (.slice none 0 0)) (csb := tcs true 5 [] 0 0 (.slice (some ⟨k + 1 + 1, 0, none⟩) 1 1)) (Nat.zero_le _) h5 (RdTree.leaf _ _ _ _ _ _) (single_rd (csa := tcs true 4 [112, 111, 111, 114] 0 0 (.slice none 0 0)) (Nat.zero_le _) h2 (RdTree.leaf _ _ _ _ _ _))
theorem two_rd (Y : World) (k : Nat) (h7 : Y.heap[k + 1 + 1 + 1 + 1 + 1 + 1 + 1]? = some (.cells #[.int .i64 (3 : Nat), vs [105, 110, 99, 111, 109, 101], .int .i64 (3 : Nat), .int .i64 (4 : Nat), .slice none 0 0, .int .i64 (3 : Nat), vs [109, 101, 109, 98, 101, 114], .int .i64 (1 : Nat), .int .i64 (1 : Nat), .slice none 0 0] 29 (0, 0))) (h9 : Y.heap[k + 1 + 1 + 1 + 1 + 1 + 1 + 1 + 1 + 1]? = some (.cells #[.int .i64 (3 : Nat), vs [105, 110, 99, 111, 109, 101], .int .i64 (3 : Nat), .int .i64 (2 : Nat), .slice none 0 0, .int .i64 (6 : Nat), vs [], .int .i64 (0 : Nat), .int .i64 (0 : Nat), .slice (some ⟨k + 1 + 1 + 1 + 1 + 1 + 1 + 1, 0, none⟩) 2 2] 29 (0, 0))) :
    RdProv 0 Y [vs [112], .int .i64 (4 : Nat), .int .i64 (1 : Nat), vs [112, 111, 111, 114], .int .i64 (0 : Nat), .int .i64 (7 : Nat), vs [], .int .i64 (0 : Nat), .int .i64 (0 : Nat), .slice (some ⟨k + 1 + 1 + 1 + 1 + 1 + 1 + 1 + 1 + 1, 0, none⟩) 2 2, .slice none 0 0, .int .i64 (4 : Nat), vs [111, 49], .int .i64 (0 : Nat), .slice none 0 0, .int .i64 (3 : Nat), vs [], .int .i64 (50 : Nat), .slice none 0 0, .int .i64 (2 : Nat), vs [], .int .i64 (0 : Nat), .slice none 0 0] hpB := by
  refine ⟨tcs true 7 [] 0 0 (.slice (some ⟨k + 1 + 1 + 1 + 1 + 1 + 1 + 1 + 1 + 1, 0, none⟩) 2 2), none, 0, tcs false 4 [111, 49] 0 0 (.slice none 0 0), tcs false 3 [] 0 50 (.slice none 0 0), tcs false 2 [] 0 0 (.slice none 0 0), rfl, Nat.le_refl _, ?_, ⟨Sl.nil, fun b o e => by cases e⟩, RdTree.leaf _ _ _ _ _ _, RdTree.leaf _ _ _ _ _ _, RdTree.leaf _ _ _ _ _ _⟩
  exact pair_rd (csa := tcs true 3 [105, 110, 99, 111, 109, 101] 3 2 (.slice none 0 0)) (csb := tcs true 6 [] 0 0 (.slice (some ⟨k + 1 + 1 + 1 + 1 + 1 + 1 + 1, 0, none⟩) 2 2)) (Nat.zero_le _) h9 (RdTree.leaf _ _ _ _ _ _) (pair_rd (csa := tcs true 3 [105, 110, 99, 111, 109, 101] 3 4 (.slice none 0 0)) (csb := tcs true 3 [109, 101, 109, 98, 101, 114] 1 1 (.slice none 0 0)) (Nat.zero_le _) h7 (RdTree.leaf _ _ _ _ _ _) (RdTree.leaf _ _ _ _ _ _))
set_option maxHeartbeats 4000000 in
theorem head_any (w : World) (m : Int) (hm : w.cell? ⟨2, 0, none⟩ = some (.int .i64 m)) :
    Calls Tryd.prog 9 #[] w fun e w' => e = .returned (.bool true) ∧ Below w.heap.size w w' := by
  have HM := Lib.hid hm
  clear hm
  go_enter Tryd.func9, Tryd.ntmps9
  go_wp2_with fail
  refine (parse_any hd0 _ m HM.out).mono ?_
  rintro e w1 ⟨hb1, hp1⟩
  rw [hd0_ok] at hp1
  obtain ⟨c1, rfl, hr1⟩ := hp1
  obtain ⟨st1, ld1⟩ := prov_io hr1
  have HB1 := Lib.hid hb1
  have HR1 := Lib.hid hr1
  clear hb1 hr1
  go_wp2_with fail
  refine (parse_any hd1 _ m (maxc_below HM.out (HB1.out.alloc HB1.out.size _))).mono ?_
  rintro e w2 ⟨hb2, hp2⟩
  rw [hd1_ok] at hp2
  obtain ⟨c2, rfl, hr2⟩ := hp2
  obtain ⟨st2, ld2⟩ := prov_io hr2
  have k1 : w2.blk w1.heap.size = some (.cells c1.toArray 35 (0, 0)) := (hb2.block _ (by simp)).trans (heap_alloc_new w1 _)
  have z1 : w1.heap.size < w2.heap.size := lt_of_heap' k1
  have HB2 : Hid (Below w.heap.size w w2) := Lib.hid ((HB1.out.alloc HB1.out.size _).trans (hb2.mono (by have := HB1.out.size; simp; omega)))
  have HC2 : Hid (Below w1.heap.size w1 w2) := Lib.hid (((Below.refl _ _).alloc (Nat.le_refl _) _).trans (hb2.mono (by simp)))
  have HK1 := Lib.hid k1
  have HR2 := Lib.hid hr2
  clear hb2 hr2 k1
  go_wp2_with fail
  refine (parse_any hd2 _ m (maxc_below HM.out (HB2.out.alloc HB2.out.size _))).mono ?_
  rintro e w3 ⟨hb3, hp3⟩
  rw [hd2_no] at hp3
  obtain rfl := hp3
  have k1 : w3.blk w1.heap.size = some (.cells c1.toArray 35 (0, 0)) := (hb3.block _ (by simp; omega)).trans ((Below.heap_alloc _ _ _ z1).trans HK1.out)
  have k2 : w3.blk w2.heap.size = some (.cells c2.toArray 35 (0, 0)) := (hb3.block _ (by simp)).trans (heap_alloc_new w2 _)
  have z2 : w2.heap.size < w3.heap.size := lt_of_heap' k2
  have HB3 : Hid (Below w.heap.size w w3) := Lib.hid ((HB2.out.alloc HB2.out.size _).trans (hb3.mono (by have := HB2.out.size; simp; omega)))
  have HC3 : Hid (Below w2.heap.size w2 w3) := Lib.hid (((Below.refl _ _).alloc (Nat.le_refl _) _).trans (hb3.mono (by simp)))
  have HK1' := Lib.hid k1
  have HK2 := Lib.hid k2
  clear hb3 k1 k2
  go_wp2_with fail
  refine (parse_any hd3 _ m (maxc_below HM.out (HB3.out.alloc HB3.out.size _))).mono ?_
  rintro e w4 ⟨hb4, hp4⟩
  rw [hd3_no] at hp4
  obtain rfl := hp4
  have HB4 : Hid (Below w.heap.size w w4) := Lib.hid ((HB3.out.alloc HB3.out.size _).trans (hb4.mono (by have := HB3.out.size; simp; omega)))
  have HC4 : Hid (Below w3.heap.size w3 w4) := Lib.hid (((Below.refl _ _).alloc (Nat.le_refl _) _).trans (hb4.mono (by simp)))
  clear hb4
  go_wp2_with fail
  refine (parse_any hd4 _ m (maxc_below HM.out (HB4.out.alloc HB4.out.size _))).mono ?_
  rintro e w5 ⟨hb5, hp5⟩
  rw [hd4_no] at hp5
  obtain rfl := hp5
  have HB5 : Hid (Below w.heap.size w w5) := Lib.hid ((HB4.out.alloc HB4.out.size _).trans (hb5.mono (by have := HB4.out.size; simp; omega)))
  have HC5 : Hid (Below w3.heap.size w3 w5) := Lib.hid (HC4.out.trans ((((Below.refl _ _).alloc (Nat.le_refl _) _).trans (hb5.mono (by simp))).mono HC4.out.size))
  have k1 : w5.blk w1.heap.size = some (.cells c1.toArray 35 (0, 0)) := (HC5.out.block _ (by omega)).trans HK1'.out
  have k2 : w5.blk w2.heap.size = some (.cells c2.toArray 35 (0, 0)) := (HC5.out.block _ (by omega)).trans HK2.out
  have z5 : w2.heap.size < w5.heap.size := lt_of_heap' k2
  have z51 : w1.heap.size < w5.heap.size := lt_of_heap' k1
  clear hb5 st1 st2
  go_wp2_with fail
  rw [rowStore_cells _ _ _ _ _ (by rfl) (by rfl) (by rfl)]
  go_upto_region 11 with fail
  go_cut [21] from 22 (fun s21 wc => s21 = .pointer (some ⟨w5.heap.size + 1 + 1 + 1 + 1 + 1 + 1 + 1 + 1 + 1 + 1, 0, none⟩) ∧ Below w5.heap.size w5 wc ∧ wc.blk (w5.heap.size + 1 + 1 + 1 + 1 + 1 + 1) = some (.cells [vs [116, 97, 120, 49], .int .i64 (2 : Nat), .int .i64 (2 : Nat), vs [116, 97, 120], .int .i64 (5 : Nat), .int .i64 (6 : Nat), vs [], .int .i64 (0 : Nat), .int .i64 (0 : Nat), .slice (some ⟨w5.heap.size + 1 + 1 + 1 + 1 + 1, 0, none⟩) 2 2, .slice none 0 0, .int .i64 (1 : Nat), vs [], .int .i64 (0 : Nat), .slice none 0 0, .int .i64 (2 : Nat), vs [], .int .i64 (0 : Nat), .slice none 0 0, .int .i64 (2 : Nat), vs [], .int .i64 (0 : Nat), .slice none 0 0].toArray 35 (0, 0)) ∧ wc.blk (w5.heap.size + 1 + 1 + 1 + 1 + 1 + 1 + 1 + 1 + 1 + 1) = some (.cells [vs [112], .int .i64 (4 : Nat), .int .i64 (1 : Nat), vs [112, 111, 111, 114], .int .i64 (0 : Nat), .int .i64 (7 : Nat), vs [], .int .i64 (0 : Nat), .int .i64 (0 : Nat), .slice (some ⟨w5.heap.size + 1 + 1 + 1 + 1 + 1 + 1 + 1 + 1 + 1, 0, none⟩) 2 2, .slice none 0 0, .int .i64 (4 : Nat), vs [111, 49], .int .i64 (0 : Nat), .slice none 0 0, .int .i64 (3 : Nat), vs [], .int .i64 (50 : Nat), .slice none 0 0, .int .i64 (2 : Nat), vs [], .int .i64 (0 : Nat), .slice none 0 0].toArray 35 (0, 0)) ∧ RdProv 0 wc [vs [116, 97, 120, 49], .int .i64 (2 : Nat), .int .i64 (2 : Nat), vs [116, 97, 120], .int .i64 (5 : Nat), .int .i64 (6 : Nat), vs [], .int .i64 (0 : Nat), .int .i64 (0 : Nat), .slice (some ⟨w5.heap.size + 1 + 1 + 1 + 1 + 1, 0, none⟩) 2 2, .slice none 0 0, .int .i64 (1 : Nat), vs [], .int .i64 (0 : Nat), .slice none 0 0, .int .i64 (2 : Nat), vs [], .int .i64 (0 : Nat), .slice none 0 0, .int .i64 (2 : Nat), vs [], .int .i64 (0 : Nat), .slice none 0 0] hpA ∧ RdProv 0 wc [vs [112], .int .i64 (4 : Nat), .int .i64 (1 : Nat), vs [112, 111, 111, 114], .int .i64 (0 : Nat), .int .i64 (7 : Nat), vs [], .int .i64 (0 : Nat), .int .i64 (0 : Nat), .slice (some ⟨w5.heap.size + 1 + 1 + 1 + 1 + 1 + 1 + 1 + 1 + 1, 0, none⟩) 2 2, .slice none 0 0, .int .i64 (4 : Nat), vs [111, 49], .int .i64 (0 : Nat), .slice none 0 0, .int .i64 (3 : Nat), vs [], .int .i64 (50 : Nat), .slice none 0 0, .int .i64 (2 : Nat), vs [], .int .i64 (0 : Nat), .slice none 0 0] hpB)
  case first =>
    go_wp2_with fail
    rw [rowStore_cells _ _ _ _ _ (by rfl) (by rfl) (by rfl)]
    go_wp2_with fail
    go_meet
    case rel =>
      refine ⟨rfl, ?_, ?_, ?_, one_rd _ w5.heap.size ?_ ?_, two_rd _ w5.heap.size ?_ ?_⟩
      · repeat (first | exact Below.refl _ _ | refine Below.alloc ?_ (by simp; omega) _ | refine Below.alloc ?_ (by simp) _)
      · repeat (first | exact alloc_at (by simp) | refine old_at ?_)
      · repeat (first | exact alloc_at (by simp) | refine old_at ?_)
      · repeat (first | exact alloc_at (by simp) | refine old_at ?_)
      · repeat (first | exact alloc_at (by simp) | refine old_at ?_)
      · repeat (first | exact alloc_at (by simp) | refine old_at ?_)
      · repeat (first | exact alloc_at (by simp) | refine old_at ?_)
  case rest =>
    obtain ⟨rfl, hbw, ho, ht, hr3, hr4⟩ := hcut
    have k1' : wc.blk w1.heap.size = some (.cells c1.toArray 35 (0, 0)) := (hbw.block _ z51).trans k1
    have k2' : wc.blk w2.heap.size = some (.cells c2.toArray 35 (0, 0)) := (hbw.block _ z5).trans k2
    have HBW := Lib.hid hbw
    have HR3 := Lib.hid hr3
    have HR4 := Lib.hid hr4
    have HT := Lib.hid ht
    have HK2' := Lib.hid k2'
    have HW : Hid (Below w.heap.size w wc) := Lib.hid (HB5.out.trans (hbw.mono HB5.out.size))
    have HA : Hid (RdProv 0 wc c1 hpA) := Lib.hid (HR1.out.below (n := 0) (by
      refine HC2.out.trans ((HC3.out.mono HC2.out.size).trans ?_)
      exact ((HC5.out.mono HC3.out.size).mono (by have := HC2.out.size; omega)).trans (hbw.mono (by omega))))
    have HBB : Hid (RdProv 0 wc c2 hpB) := Lib.hid (HR2.out.below (n := 0) (HC3.out.trans ((HC5.out.mono HC3.out.size).trans (hbw.mono (by omega)))))
    clear hbw hr3 hr4 k1 k2
    go_wp2_with fail
    refine (same_any hpA _ _ _ _ _ HA.out HR3.out (by decide) (by decide) (by decide) (by decide) (by decide)).mono ?_
    rintro e w6 ⟨rfl, hb6⟩
    have k2'' := (hb6.block _ (lt_of_heap' HK2'.out)).trans HK2'.out
    have ht' := (hb6.block _ (lt_of_heap' HT.out)).trans HT.out
    have k3 : w6.blk w2.heap.size = some (.cells c2.toArray 35 (0, 0)) := k2''
    have k4 : w6.blk (w5.heap.size + 1 + 1 + 1 + 1 + 1 + 1 + 1 + 1 + 1 + 1) = _ := ht'
    have HB6 := Lib.hid hb6
    clear hb6 k2'' ht' k1' ho k2' ht
    go_wp2_with fail
    refine (same_any hpB _ _ _ _ _ (HBB.out.below (n := 0) HB6.out) (HR4.out.below (n := 0) HB6.out) (by decide) (by decide) (by decide) (by decide) (by decide)).mono ?_
    rintro e w7 ⟨rfl, hb7⟩
    have HB7 := Lib.hid hb7
    clear hb7
    go_wp2_with fail
    go_ret
    exact ⟨rfl, HW.out.trans ((HB6.out.trans (HB7.out.mono HB6.out.size)).mono HW.out.size)⟩
end Go.Proofs.YtpagkakplmeokaaDoor
