/- The reference's Apply. The reference's Apply: one item changed. The reference's Apply: words. -/
import Derived.Test.YtfolcjkednmkoaaGreatJFail
import Derived.Test.YtfolcjkednmkoaaGreatJPt
import Derived.Deep.DeepCutAuto
set_option linter.unusedVariables false
set_option linter.unusedSimpArgs false
set_option maxRecDepth 20000
set_option maxHeartbeats 8000000
namespace Go.Proofs.YtfolcjkednmkoaaGreat
open Go.RowKit
theorem rkeepk {wp wn : World} {b : Nat} {x : Obj} (hb : Below wp.heap.size wp wn) (h : wp.blk b = some x) : wn.blk b = some x := (hb.block b (lt_of_heap h)).trans h
def RApplies (l : List Item) (A : Option Addr) (c : Nat) (p : Patch) (w : World) : Prop :=
 Calls Tryz.prog 38 #[.agg #[.slice A l.length c], p.agg] w fun e w' => ∃ v, e = .returned (.tuple #[v, .int .i64 (applyF l p).2]) ∧ ResC w.heap.size w' v (applyF l p).1 ∧ Below w.heap.size w w'
theorem apply_put {l : List Item} {p : Patch} (hk : p.kind = 1) (he : (applyF l p).2 = 0) : (applyF l p).1 = putL l [p.item] p.par p.aft ∧ PutOk l p.par p.aft ∧ l.length < 2000 := by
 have hv : walkB l = true := by
  cases hv : walkB l with
  | false => simp [applyF, hv] at he
  | true => rfl
 have hf : formedF p = true := by
  cases hf : formedF p with
  | false => simp [applyF, hf] at he
  | true => rfl
 have hn : ¬ (walkB l = false ∨ formedF p = false) := by rw [hv, hf]; simp
 unfold applyF at he ⊢
 rw [if_neg hn, if_pos hk] at he ⊢
 unfold insertF at he ⊢
 by_cases h1 : 0 ≤ findI l p.id
 · rw [if_pos h1] at he; simp at he
 · rw [if_neg h1] at he ⊢
   by_cases h2 : existsF l p.par p.aft = false
   · rw [if_pos h2] at he; simp at he
   · rw [if_neg h2] at he ⊢
     by_cases h3 : 2000 ≤ l.length
     · rw [if_pos h3] at he; simp at he
     · rw [if_neg h3]
       obtain ⟨a, b, o, hp⟩ := (good_of hv).place (by simpa using h2)
       exact ⟨rfl, hp.ok, by omega⟩
theorem rap_err (l : List Item) (A : Option Addr) (c : Nat) (p : Patch) (w : World) (hr : RdI w A l) (hl : l.length ≤ 100000) (hlc : l.length ≤ c) (hsh : ∀ x ∈ l, x.Short) (hps : p.item.Short) (hpn : p.num.length ≤ maxLen) (hfr : p.fr.length ≤ 1000000) (htt : p.to.length ≤ 1000000) (er : Int) (he : (applyF l p).2 = er) (h0 : er ≠ 0) : RApplies l A c p w := by
 have hd := apply_err (l := l) (p := p) (by rw [he]; exact h0)
 have h0e : (er != 0) = true := by simpa using h0
 unfold RApplies
 rw [hd, he]
 clear hd h0
 have hb0 := (((Below.refl w.heap.size w).alloc (Nat.le_refl _) (.cells #[.slice A l.length c] 24)).alloc (by simp) (.cells (patCs p) 29)).alloc (by simp; omega) (.cells #[.slice none 0 0] 24)
 have HB0 := Lib.hid hb0; clear hb0
 have HR := Lib.hid hr; clear hr
 have HE := Lib.hid he; clear he
 have K20 : (((w.alloc (.cells #[.slice A l.length c] 24)).alloc (.cells (patCs p) 29)).alloc (.cells #[.slice none 0 0] 24)).cell? ⟨w.heap.size, 0, none⟩ = some (.slice A l.length c) := by simp [go_sem]
 have P30 : (((w.alloc (.cells #[.slice A l.length c] 24)).alloc (.cells (patCs p) 29)).alloc (.cells #[.slice none 0 0] 24)).blk (w.heap.size + 1) = some (.cells (patCs p) 29 (0, 0)) := by simp [go_sem]
 have R0 : (((w.alloc (.cells #[.slice A l.length c] 24)).alloc (.cells (patCs p) 29)).alloc (.cells #[.slice none 0 0] 24)).cell? ⟨w.heap.size + 1 + 1, 0, none⟩ = some (.slice none 0 0) := by simp [go_sem]
 have RF0 : (((w.alloc (.cells #[.slice A l.length c] 24)).alloc (.cells (patCs p) 29)).alloc (.cells #[.slice none 0 0] 24)).frozen? ⟨w.heap.size + 1 + 1, 0, none⟩ = false := by simp [go_sem]
 have z0 : w.heap.size + 1 + 1 < (((w.alloc (.cells #[.slice A l.length c] 24)).alloc (.cells (patCs p) 29)).alloc (.cells #[.slice none 0 0] 24)).heap.size := by simp
 have hsz0 : (((w.alloc (.cells #[.slice A l.length c] 24)).alloc (.cells (patCs p) 29)).alloc (.cells #[.slice none 0 0] 24)).heap.size = w.heap.size + 1 + 1 + 1 := by simp
 have HSZ0 := Lib.hid hsz0; clear hsz0
 go_enter Tryz.func38, Tryz.ntmps38
 go_wp2_with fail
 refine (rfail_any l _ c p _ (HR.out.below HB0.out) (by omega) hsh hps hpn hfr htt).mono ?_
 rintro e w1 ⟨rfl, hb1⟩
 rw [HE.out]
 have K21 := keepw hb1 K20
 have P31 := rkeepk hb1 P30
 have R1 := keepw hb1 R0
 have RF1 := (hb1.frozen (p := ⟨w.heap.size + 1 + 1, 0, none⟩) z0).trans RF0
 have HB1 := Lib.hid (HB0.out.trans (hb1.mono HB0.out.size))
 have y21 : w.heap.size < w1.heap.size := World.block_lt_of_cell? _ _ K21
 have y31 : w.heap.size + 1 < w1.heap.size := lt_of_heap P31
 have y41 : w.heap.size + 1 + 1 < w1.heap.size := World.block_lt_of_cell? _ _ R1
 have HR1 := Lib.hid (HR.out.below HB1.out)
 clear hb1 K20 P30 R0 RF0 z0
 go_wp2_with fail
 refine bodyPost_ret (v := .tuple #[.agg #[.slice none 0 0], .int .i64 er]) (by simp [results, Tryz.results38, go_sem, R1, RF1, y41]) rfl ⟨_, rfl, ResC.nil _ _ _, ?_⟩
 exact HB1.out.setCell (show w.heap.size ≤ w.heap.size + 1 + 1 by omega) _
theorem rap_1 (l : List Item) (A : Option Addr) (c : Nat) (p : Patch) (w : World) (hr : RdI w A l) (hl : l.length ≤ 100000) (hlc : l.length ≤ c) (hsh : ∀ x ∈ l, x.Short) (hps : p.item.Short) (hpn : p.num.length ≤ maxLen) (hfr : p.fr.length ≤ 1000000) (htt : p.to.length ≤ 1000000) (he : (applyF l p).2 = 0) (hk : p.kind = 1) : RApplies l A c p w := by
 obtain ⟨hp1, hpo, hlt⟩ := apply_put hk he
 have k1 : (p.kind == 1) = true := by simp [hk]
 unfold RApplies
 rw [hp1, he]
 clear hp1 hk
 have hb0 := (((Below.refl w.heap.size w).alloc (Nat.le_refl _) (.cells #[.slice A l.length c] 24)).alloc (by simp) (.cells (patCs p) 29)).alloc (by simp; omega) (.cells #[.slice none 0 0] 24)
 have HB0 := Lib.hid hb0; clear hb0
 have HR := Lib.hid hr; clear hr
 have HE := Lib.hid he; clear he
 have K20 : (((w.alloc (.cells #[.slice A l.length c] 24)).alloc (.cells (patCs p) 29)).alloc (.cells #[.slice none 0 0] 24)).cell? ⟨w.heap.size, 0, none⟩ = some (.slice A l.length c) := by simp [go_sem]
 have P30 : (((w.alloc (.cells #[.slice A l.length c] 24)).alloc (.cells (patCs p) 29)).alloc (.cells #[.slice none 0 0] 24)).blk (w.heap.size + 1) = some (.cells (patCs p) 29 (0, 0)) := by simp [go_sem]
 have R0 : (((w.alloc (.cells #[.slice A l.length c] 24)).alloc (.cells (patCs p) 29)).alloc (.cells #[.slice none 0 0] 24)).cell? ⟨w.heap.size + 1 + 1, 0, none⟩ = some (.slice none 0 0) := by simp [go_sem]
 have RF0 : (((w.alloc (.cells #[.slice A l.length c] 24)).alloc (.cells (patCs p) 29)).alloc (.cells #[.slice none 0 0] 24)).frozen? ⟨w.heap.size + 1 + 1, 0, none⟩ = false := by simp [go_sem]
 have z0 : w.heap.size + 1 + 1 < (((w.alloc (.cells #[.slice A l.length c] 24)).alloc (.cells (patCs p) 29)).alloc (.cells #[.slice none 0 0] 24)).heap.size := by simp
 have hsz0 : (((w.alloc (.cells #[.slice A l.length c] 24)).alloc (.cells (patCs p) 29)).alloc (.cells #[.slice none 0 0] 24)).heap.size = w.heap.size + 1 + 1 + 1 := by simp
 have HSZ0 := Lib.hid hsz0; clear hsz0
 go_enter Tryz.func38, Tryz.ntmps38
 go_wp2_with fail
 refine (rfail_any l _ c p _ (HR.out.below HB0.out) (by omega) hsh hps hpn hfr htt).mono ?_
 rintro e w1 ⟨rfl, hb1⟩
 rw [HE.out]
 have K21 := keepw hb1 K20
 have P31 := rkeepk hb1 P30
 have R1 := keepw hb1 R0
 have RF1 := (hb1.frozen (p := ⟨w.heap.size + 1 + 1, 0, none⟩) z0).trans RF0
 have HB1 := Lib.hid (HB0.out.trans (hb1.mono HB0.out.size))
 have y21 : w.heap.size < w1.heap.size := World.block_lt_of_cell? _ _ K21
 have y31 : w.heap.size + 1 < w1.heap.size := lt_of_heap P31
 have y41 : w.heap.size + 1 + 1 < w1.heap.size := World.block_lt_of_cell? _ _ R1
 have HR1 := Lib.hid (HR.out.below HB1.out)
 clear hb1 K20 P30 R0 RF0 z0
 have c0 : w1.cell? ⟨w.heap.size + 1, 0, none⟩ = some (.int .i64 p.kind) := cell_of_blk P31 rfl
 have c2 : w1.cell? ⟨w.heap.size + 1, 2, none⟩ = some (vs p.par) := cell_of_blk P31 rfl
 have c3 : w1.cell? ⟨w.heap.size + 1, 3, none⟩ = some (vs p.aft) := cell_of_blk P31 rfl
 have c5 : w1.cell? ⟨w.heap.size + 1, 5, none⟩ = some (.int .i64 p.item.kind) := cell_of_blk P31 rfl
 have c6 : w1.cell? ⟨w.heap.size + 1, 6, none⟩ = some (vs p.item.id) := cell_of_blk P31 rfl
 have c7 : w1.cell? ⟨w.heap.size + 1, 7, none⟩ = some (vs p.item.par) := cell_of_blk P31 rfl
 have c8 : w1.cell? ⟨w.heap.size + 1, 8, none⟩ = some (vs p.item.num) := cell_of_blk P31 rfl
 have c9 : w1.cell? ⟨w.heap.size + 1, 9, none⟩ = some (vs p.item.no) := cell_of_blk P31 rfl
 have c10 : w1.cell? ⟨w.heap.size + 1, 10, none⟩ = some (vs p.item.so) := cell_of_blk P31 rfl
 have c11 : w1.cell? ⟨w.heap.size + 1, 11, none⟩ = some (.bool p.item.gone) := cell_of_blk P31 rfl
 have R1a := keepw ((Below.refl _ w1).alloc (Nat.le_refl _) (.cells p.item.cells.toArray 27)) R1
 have RF1a := (((Below.refl _ w1).alloc (Nat.le_refl _) (.cells p.item.cells.toArray 27)).frozen (p := ⟨w.heap.size + 1 + 1, 0, none⟩) y41).trans RF1
 go_wp2_with fail
 refine (rput_any l [p.item] A (some ⟨w1.heap.size, 0, none⟩) c 1 p.par p.aft _ (HR1.out.below ((Below.refl _ _).alloc (Nat.le_refl _) _)) arr_valid (by simp; omega) hlc hsh hpo).mono ?_
 rintro e w2 ⟨v, rfl, ⟨A', c', rfl, hr', hlc', hA'⟩, hb2⟩
 have R2 := keepw hb2 R1a
 have RF2 := (hb2.frozen (p := ⟨w.heap.size + 1 + 1, 0, none⟩) (by simp; omega)).trans RF1a
 have y42 : w.heap.size + 1 + 1 < w2.heap.size := World.block_lt_of_cell? _ _ R2
 have HB2 := Lib.hid (HB1.out.trans ((((Below.refl _ _).alloc (Nat.le_refl _) _).trans (hb2.mono (by simp))).mono HB1.out.size))
 clear hb2
 go_wp2_with fail
 refine bodyPost_ret (v := .tuple #[.agg #[.slice A' (putL l [p.item] p.par p.aft).length c'], .int .i64 0]) (by simp [results, Tryz.results38, go_sem, R2, RF2, y42]) rfl ⟨_, rfl, ⟨A', c', rfl, Sl.keep hr' (by simp) (fun b o hA _ => Below.heap_setCell _ _ _ _ (by have := hA' b o hA; simp at this; show b ≠ w.heap.size + 1 + 1; omega)), hlc', fun b o hA => by have := hA' b o hA; simp at this; omega⟩, ?_⟩
 exact HB2.out.setCell (show w.heap.size ≤ w.heap.size + 1 + 1 by omega) _
end Go.Proofs.YtfolcjkednmkoaaGreat
set_option maxRecDepth 20000
set_option maxHeartbeats 8000000
namespace Go.Proofs.YtfolcjkednmkoaaGreat
open Go.RowKit
theorem fz_setRow {w : World} {g : Nat} {cs : Array Value} {a : Addr} {b : Bool} (h : w.frozen? a = b) (hne : a.block ≠ g) : (w.setRow g cs).frozen? a = b := by
 unfold World.frozen? at h ⊢
 rw [setRow_other _ _ _ _ hne]
 exact h
theorem frozen_of_cells {w : World} {a : Addr} {v : Value} (h : w.cell? a = some v) (hf : w.frozen? a = false) : w.frozen? a = false := hf
theorem rap_3 (l : List Item) (A : Option Addr) (c : Nat) (p : Patch) (w : World) (hr : RdI w A l) (hl : l.length ≤ 100000) (hlc : l.length ≤ c) (hsh : ∀ x ∈ l, x.Short) (hps : p.item.Short) (hpn : p.num.length ≤ maxLen) (hfr : p.fr.length ≤ 1000000) (htt : p.to.length ≤ 1000000) (he : (applyF l p).2 = 0) (hk : p.kind = 3) (k : Nat) (y : Item) (hfi : findI l p.id = k) (hy : l[k]? = some y)  (hres : (applyF l p).1 = l.set k { y with num := p.num }) : RApplies l A c p w := by
 unfold RApplies
 rw [hres, he]
 clear hres
 have kb1 : (p.kind == 1) = false := by simp [hk]
 have kb2 : (p.kind == 2) = false := by simp [hk]
 have kb3 : (p.kind == 3) = true := by simp [hk]
 have kb4 : (p.kind == 4) = false := by simp [hk]
 have kb5 : (p.kind == 5) = false := by simp [hk]
 have kb6 : (p.kind == 6) = false := by simp [hk]
 have kb7 : (p.kind == 7) = false := by simp [hk]
 have hkl : k < l.length := (List.getElem?_eq_some_iff.1 hy).1
 have hi0 : (0 : Int) ≤ k := by omega
 have hi1 : (k : Int) < l.length := by omega
 have hne : l ≠ [] := by rintro rfl; simp at hkl
 obtain ⟨b1, o1, hA, hbs1, -⟩ := hr.item hy
 subst hA
 have HFI := Lib.hid hfi; clear hfi
 have HY := Lib.hid hy; clear hy
 have HNE := Lib.hid hne; clear hne
 clear hk 
 have hb0 := (((Below.refl w.heap.size w).alloc (Nat.le_refl _) (.cells #[.slice (some ⟨b1, o1, none⟩) l.length c] 24)).alloc (by simp) (.cells (patCs p) 29)).alloc (by simp; omega) (.cells #[.slice none 0 0] 24)
 have HB0 := Lib.hid hb0; clear hb0
 have HR := Lib.hid hr; clear hr
 have HE := Lib.hid he; clear he
 have K20 : (((w.alloc (.cells #[.slice (some ⟨b1, o1, none⟩) l.length c] 24)).alloc (.cells (patCs p) 29)).alloc (.cells #[.slice none 0 0] 24)).cell? ⟨w.heap.size, 0, none⟩ = some (.slice (some ⟨b1, o1, none⟩) l.length c) := by simp [go_sem]
 have P30 : (((w.alloc (.cells #[.slice (some ⟨b1, o1, none⟩) l.length c] 24)).alloc (.cells (patCs p) 29)).alloc (.cells #[.slice none 0 0] 24)).blk (w.heap.size + 1) = some (.cells (patCs p) 29 (0, 0)) := by simp [go_sem]
 have R0 : (((w.alloc (.cells #[.slice (some ⟨b1, o1, none⟩) l.length c] 24)).alloc (.cells (patCs p) 29)).alloc (.cells #[.slice none 0 0] 24)).cell? ⟨w.heap.size + 1 + 1, 0, none⟩ = some (.slice none 0 0) := by simp [go_sem]
 have RF0 : (((w.alloc (.cells #[.slice (some ⟨b1, o1, none⟩) l.length c] 24)).alloc (.cells (patCs p) 29)).alloc (.cells #[.slice none 0 0] 24)).frozen? ⟨w.heap.size + 1 + 1, 0, none⟩ = false := by simp [go_sem]
 have z0 : w.heap.size + 1 + 1 < (((w.alloc (.cells #[.slice (some ⟨b1, o1, none⟩) l.length c] 24)).alloc (.cells (patCs p) 29)).alloc (.cells #[.slice none 0 0] 24)).heap.size := by simp
 have hsz0 : (((w.alloc (.cells #[.slice (some ⟨b1, o1, none⟩) l.length c] 24)).alloc (.cells (patCs p) 29)).alloc (.cells #[.slice none 0 0] 24)).heap.size = w.heap.size + 1 + 1 + 1 := by simp
 have HSZ0 := Lib.hid hsz0; clear hsz0
 go_enter Tryz.func38, Tryz.ntmps38
 go_wp2_with fail
 refine (rfail_any l _ c p _ (HR.out.below HB0.out) (by omega) hsh hps hpn hfr htt).mono ?_
 rintro e w1 ⟨rfl, hb1⟩
 rw [HE.out]
 have K21 := keepw hb1 K20
 have P31 := rkeepk hb1 P30
 have R1 := keepw hb1 R0
 have RF1 := (hb1.frozen (p := ⟨w.heap.size + 1 + 1, 0, none⟩) z0).trans RF0
 have HB1 := Lib.hid (HB0.out.trans (hb1.mono HB0.out.size))
 have y21 : w.heap.size < w1.heap.size := World.block_lt_of_cell? _ _ K21
 have y31 : w.heap.size + 1 < w1.heap.size := lt_of_heap P31
 have y41 : w.heap.size + 1 + 1 < w1.heap.size := World.block_lt_of_cell? _ _ R1
 have HR1 := Lib.hid (HR.out.below HB1.out)
 clear hb1 K20 P30 R0 RF0 z0
 have c0 : w1.cell? ⟨w.heap.size + 1, 0, none⟩ = some (.int .i64 p.kind) := cell_of_blk P31 rfl
 have c1 : w1.cell? ⟨w.heap.size + 1, 1, none⟩ = some (vs p.id) := cell_of_blk P31 rfl
 go_wp2_with fail
 refine (rfind_at HFI.out _ _ _ HR1.out (le_maxLen (by omega))).mono ?_
 rintro e w2 ⟨rfl, hb2⟩
 have K22 := keepw hb2 K21
 have P32 := rkeepk hb2 P31
 have R2 := keepw hb2 R1
 have RF2 := (hb2.frozen (p := ⟨w.heap.size + 1 + 1, 0, none⟩) y41).trans RF1
 have HB2 := Lib.hid (HB1.out.trans (hb2.mono HB1.out.size))
 have y42 : w.heap.size + 1 + 1 < w2.heap.size := World.block_lt_of_cell? _ _ R2
 have y22 : w.heap.size < w2.heap.size := by omega
 have y32 : w.heap.size + 1 < w2.heap.size := by omega
 have HR2 := Lib.hid (HR.out.below HB2.out)
 clear hb2 K21 P31 R1 RF1 HB1 y21 y31 y41 HR1 c0 c1
 have p0 : w2.cell? ⟨w.heap.size + 1, 0, none⟩ = some (.int .i64 p.kind) := cell_of_blk P32 rfl
 have p4 : w2.cell? ⟨w.heap.size + 1, 4, none⟩ = some (vs p.num) := cell_of_blk P32 rfl
 obtain ⟨b9, o9, hA9, hbs9, c0, c1, c2, c3, c4, c5, c6⟩ := HR2.out.item HY.out
 cases hA9
 go_upto_region 7 with (fail)
 go_cut [8] (fun v8 wc => ∃ (g cap : Nat) (rest : List Value), v8 = .pointer (some ⟨wc.heap.size - 1, 0, none⟩) ∧ wc.cell? ⟨wc.heap.size - 1, 0, none⟩ = some (.slice (some ⟨g, 0, none⟩) l.length cap) ∧ w2.heap.size ≤ g ∧ g < wc.heap.size - 1 ∧ wc.heap[g]? = some (.cells (flat l ++ rest).toArray 27 (0, 0)) ∧ l.length ≤ cap ∧ cap ≤ maxLen ∧ (flat l ++ rest).length = cap * 7 ∧ Below w2.heap.size w2 wc)
 case first =>
  go_wp2_with (at_builtin; refine wpList_append_items rfl (.tmp 36) (.tmp 38) rfl rfl w2.heap.size (.slice (some ⟨w2.heap.size, 0, none⟩) 0 0) [] _ l _ _ rfl rfl rfl (made_empty w2) (HR2.out.below ((Below.refl _ _).alloc (Nat.le_refl _) _)) (by simp; omega) (by simp) ?_; intro v1 u1 hown1 hgr1; have hB1 : Below w2.heap.size w2 u1 := ((Below.refl _ _).alloc (Nat.le_refl _) _).grown hgr1 (by simp) (by simp [Value.ownBlock]); rw [List.nil_append] at hown1; obtain ⟨g, cap, rest, rfl, hg, hglt, hh, hlc1, hcm, hs⟩ := hown1.row HNE.out)
  go_meet
  case rel => exact ⟨g, cap, rest, by simp, by simp [go_sem], hg, by simpa using hglt, (Below.heap_alloc _ _ _ hglt).trans hh, hlc1, hcm, hs, hB1.alloc hB1.size _⟩
 case' rest =>
  obtain ⟨g, cap, rest, rfl, hc8, hg, hg2, hh, hlc1, hcm, hs, hbw⟩ := hcut
  obtain ⟨b8, hb8⟩ : ∃ b, b = wc.heap.size - 1 := ⟨_, rfl⟩
  rw [← hb8] at hc8 hg2 ⊢
  have hb8lt : b8 < wc.heap.size := World.block_lt_of_cell? _ _ hc8
  have hgne : ¬ b8 = g := by omega
  have hgne2 : ¬ g = b8 := by omega
  have hglt : g < wc.heap.size := by omega
  have R3 := keepw hbw R2
  have RF3 := (hbw.frozen (p := ⟨w.heap.size + 1 + 1, 0, none⟩) y42).trans RF2
  have K23 := keepw hbw K22
  have r0 := keepw hbw p0
  have r4 := keepw hbw p4
  have HB3 := Lib.hid (HB2.out.trans (hbw.mono HB2.out.size))
  have d0 := keepw hbw c0
  have d1 := keepw hbw c1
  have d2 := keepw hbw c2
  have d3 := keepw hbw c3
  have d4 := keepw hbw c4
  have d5 := keepw hbw c5
  have d6 := keepw hbw c6
  have y43 : w.heap.size + 1 + 1 < wc.heap.size := World.block_lt_of_cell? _ _ R3
  have y23 : w.heap.size < wc.heap.size := by omega
  have y33 : w.heap.size + 1 < wc.heap.size := by omega
  have hb1c : b1 < wc.heap.size := World.block_lt_of_cell? _ _ d0
  have hbig : b8 < wc.heap.size + 1 := by omega
  have hfit : k * 7 + 7 ≤ (flat l ++ rest).length := by rw [hs]; omega
  have hkc : (k : Int) < cap := by omega
  have HH := Lib.hid hh
  have HG := Lib.hid hg
  clear hbw c0 c1 c2 c3 c4 c5 c6 R2 RF2 K22 P32 hh hg hb8
  go_wp2_with (refine wpList_store_row rfl 27 (.tmp 128) (.tmp 127) rfl g (k * 7) (Item.cells { y with num := p.num }) (flat l ++ rest) 27 (by first | rfl | (simp [Act.eval, Act.put]; done)) (by first | rfl | (simp [Act.eval, Act.put]; done)) ((Below.heap_alloc _ _ _ hglt).trans HH.out) hfit size7 (cells_one { y with num := p.num }) ?_; generalize hWs : World.setRow _ g _ = Ws; have hWb : Below w.heap.size w Ws := (by rw [← hWs]; exact below_setRow (HB3.out.alloc HB3.out.size _) (by have := HG.out; omega) _); have e1 : Ws.cell? ⟨b8, 0, none⟩ = some (.slice (some ⟨g, 0, none⟩) l.length cap) := (by rw [← hWs, cell_setRow_other _ _ _ _ hgne]; exact keepw ((Below.refl _ wc).alloc (Nat.le_refl _) _) hc8); have e2 : Ws.cell? ⟨w.heap.size + 1 + 1, 0, none⟩ = some (.slice none 0 0) := (by rw [← hWs, cell_setRow_other _ _ _ _ (by have := HG.out; show w.heap.size + 1 + 1 ≠ g; omega)]; exact keepw ((Below.refl _ wc).alloc (Nat.le_refl _) _) R3); have e3 : Ws.frozen? ⟨w.heap.size + 1 + 1, 0, none⟩ = false := (frozen_of_cells e2 (by rw [← hWs]; exact fz_setRow ((((Below.refl _ wc).alloc (Nat.le_refl _) _).frozen (p := ⟨w.heap.size + 1 + 1, 0, none⟩) y43).trans RF3) (by have := HG.out; show w.heap.size + 1 + 1 ≠ g; omega))); have e4 : Ws.heap[g]? = some (.cells (flat (l.set k { y with num := p.num }) ++ rest).toArray 27 (0, 0)) := (by rw [← hWs, setRow_heap _ _ _ _ _ _ ((Below.heap_alloc _ _ _ hglt).trans HH.out), flat_set l rest k _ hkl]); have e5 : w.heap.size + 1 + 1 < Ws.heap.size := World.block_lt_of_cell? _ _ e2; clear hWs)
  refine bodyPost_ret (v := .tuple #[.agg #[.slice (some ⟨g, 0, none⟩) l.length cap], .int .i64 0]) (by simp [results, Tryz.results38, go_sem, e2, e3, e5]) rfl ⟨_, rfl, ⟨some ⟨g, 0, none⟩, cap, by simp, RdI.of_row (cur := flat (l.set k { y with num := p.num }) ++ rest) (rest := rest) (t := 27) ((Below.heap_setCell _ _ _ _ (by have := HG.out; show g ≠ w.heap.size + 1 + 1; omega)).trans e4) rfl, by simpa using hlc1, fun b o hA => by cases hA; have := HG.out; have := HB2.out.size; omega⟩, ?_⟩
  exact hWb.setCell (show w.heap.size ≤ w.heap.size + 1 + 1 by omega) _
theorem rap_5 (l : List Item) (A : Option Addr) (c : Nat) (p : Patch) (w : World) (hr : RdI w A l) (hl : l.length ≤ 100000) (hlc : l.length ≤ c) (hsh : ∀ x ∈ l, x.Short) (hps : p.item.Short) (hpn : p.num.length ≤ maxLen) (hfr : p.fr.length ≤ 1000000) (htt : p.to.length ≤ 1000000) (he : (applyF l p).2 = 0) (hk : p.kind = 5) (k : Nat) (y : Item) (hfi : findI l p.id = k) (hy : l[k]? = some y)  (hres : (applyF l p).1 = l.set k { y with gone := true }) : RApplies l A c p w := by
 unfold RApplies
 rw [hres, he]
 clear hres
 have kb1 : (p.kind == 1) = false := by simp [hk]
 have kb2 : (p.kind == 2) = false := by simp [hk]
 have kb3 : (p.kind == 3) = false := by simp [hk]
 have kb4 : (p.kind == 4) = false := by simp [hk]
 have kb5 : (p.kind == 5) = true := by simp [hk]
 have kb6 : (p.kind == 6) = false := by simp [hk]
 have kb7 : (p.kind == 7) = false := by simp [hk]
 have hkl : k < l.length := (List.getElem?_eq_some_iff.1 hy).1
 have hi0 : (0 : Int) ≤ k := by omega
 have hi1 : (k : Int) < l.length := by omega
 have hne : l ≠ [] := by rintro rfl; simp at hkl
 obtain ⟨b1, o1, hA, hbs1, -⟩ := hr.item hy
 subst hA
 have HFI := Lib.hid hfi; clear hfi
 have HY := Lib.hid hy; clear hy
 have HNE := Lib.hid hne; clear hne
 clear hk 
 have hb0 := (((Below.refl w.heap.size w).alloc (Nat.le_refl _) (.cells #[.slice (some ⟨b1, o1, none⟩) l.length c] 24)).alloc (by simp) (.cells (patCs p) 29)).alloc (by simp; omega) (.cells #[.slice none 0 0] 24)
 have HB0 := Lib.hid hb0; clear hb0
 have HR := Lib.hid hr; clear hr
 have HE := Lib.hid he; clear he
 have K20 : (((w.alloc (.cells #[.slice (some ⟨b1, o1, none⟩) l.length c] 24)).alloc (.cells (patCs p) 29)).alloc (.cells #[.slice none 0 0] 24)).cell? ⟨w.heap.size, 0, none⟩ = some (.slice (some ⟨b1, o1, none⟩) l.length c) := by simp [go_sem]
 have P30 : (((w.alloc (.cells #[.slice (some ⟨b1, o1, none⟩) l.length c] 24)).alloc (.cells (patCs p) 29)).alloc (.cells #[.slice none 0 0] 24)).blk (w.heap.size + 1) = some (.cells (patCs p) 29 (0, 0)) := by simp [go_sem]
 have R0 : (((w.alloc (.cells #[.slice (some ⟨b1, o1, none⟩) l.length c] 24)).alloc (.cells (patCs p) 29)).alloc (.cells #[.slice none 0 0] 24)).cell? ⟨w.heap.size + 1 + 1, 0, none⟩ = some (.slice none 0 0) := by simp [go_sem]
 have RF0 : (((w.alloc (.cells #[.slice (some ⟨b1, o1, none⟩) l.length c] 24)).alloc (.cells (patCs p) 29)).alloc (.cells #[.slice none 0 0] 24)).frozen? ⟨w.heap.size + 1 + 1, 0, none⟩ = false := by simp [go_sem]
 have z0 : w.heap.size + 1 + 1 < (((w.alloc (.cells #[.slice (some ⟨b1, o1, none⟩) l.length c] 24)).alloc (.cells (patCs p) 29)).alloc (.cells #[.slice none 0 0] 24)).heap.size := by simp
 have hsz0 : (((w.alloc (.cells #[.slice (some ⟨b1, o1, none⟩) l.length c] 24)).alloc (.cells (patCs p) 29)).alloc (.cells #[.slice none 0 0] 24)).heap.size = w.heap.size + 1 + 1 + 1 := by simp
 have HSZ0 := Lib.hid hsz0; clear hsz0
 go_enter Tryz.func38, Tryz.ntmps38
 go_wp2_with fail
 refine (rfail_any l _ c p _ (HR.out.below HB0.out) (by omega) hsh hps hpn hfr htt).mono ?_
 rintro e w1 ⟨rfl, hb1⟩
 rw [HE.out]
 have K21 := keepw hb1 K20
 have P31 := rkeepk hb1 P30
 have R1 := keepw hb1 R0
 have RF1 := (hb1.frozen (p := ⟨w.heap.size + 1 + 1, 0, none⟩) z0).trans RF0
 have HB1 := Lib.hid (HB0.out.trans (hb1.mono HB0.out.size))
 have y21 : w.heap.size < w1.heap.size := World.block_lt_of_cell? _ _ K21
 have y31 : w.heap.size + 1 < w1.heap.size := lt_of_heap P31
 have y41 : w.heap.size + 1 + 1 < w1.heap.size := World.block_lt_of_cell? _ _ R1
 have HR1 := Lib.hid (HR.out.below HB1.out)
 clear hb1 K20 P30 R0 RF0 z0
 have c0 : w1.cell? ⟨w.heap.size + 1, 0, none⟩ = some (.int .i64 p.kind) := cell_of_blk P31 rfl
 have c1 : w1.cell? ⟨w.heap.size + 1, 1, none⟩ = some (vs p.id) := cell_of_blk P31 rfl
 go_wp2_with fail
 refine (rfind_at HFI.out _ _ _ HR1.out (le_maxLen (by omega))).mono ?_
 rintro e w2 ⟨rfl, hb2⟩
 have K22 := keepw hb2 K21
 have P32 := rkeepk hb2 P31
 have R2 := keepw hb2 R1
 have RF2 := (hb2.frozen (p := ⟨w.heap.size + 1 + 1, 0, none⟩) y41).trans RF1
 have HB2 := Lib.hid (HB1.out.trans (hb2.mono HB1.out.size))
 have y42 : w.heap.size + 1 + 1 < w2.heap.size := World.block_lt_of_cell? _ _ R2
 have y22 : w.heap.size < w2.heap.size := by omega
 have y32 : w.heap.size + 1 < w2.heap.size := by omega
 have HR2 := Lib.hid (HR.out.below HB2.out)
 clear hb2 K21 P31 R1 RF1 HB1 y21 y31 y41 HR1 c0 c1
 have p0 : w2.cell? ⟨w.heap.size + 1, 0, none⟩ = some (.int .i64 p.kind) := cell_of_blk P32 rfl
 obtain ⟨b9, o9, hA9, hbs9, c0, c1, c2, c3, c4, c5, c6⟩ := HR2.out.item HY.out
 cases hA9
 go_upto_region 7 with (fail)
 go_cut [8] (fun v8 wc => ∃ (g cap : Nat) (rest : List Value), v8 = .pointer (some ⟨wc.heap.size - 1, 0, none⟩) ∧ wc.cell? ⟨wc.heap.size - 1, 0, none⟩ = some (.slice (some ⟨g, 0, none⟩) l.length cap) ∧ w2.heap.size ≤ g ∧ g < wc.heap.size - 1 ∧ wc.heap[g]? = some (.cells (flat l ++ rest).toArray 27 (0, 0)) ∧ l.length ≤ cap ∧ cap ≤ maxLen ∧ (flat l ++ rest).length = cap * 7 ∧ Below w2.heap.size w2 wc)
 case first =>
  go_wp2_with (at_builtin; refine wpList_append_items rfl (.tmp 36) (.tmp 38) rfl rfl w2.heap.size (.slice (some ⟨w2.heap.size, 0, none⟩) 0 0) [] _ l _ _ rfl rfl rfl (made_empty w2) (HR2.out.below ((Below.refl _ _).alloc (Nat.le_refl _) _)) (by simp; omega) (by simp) ?_; intro v1 u1 hown1 hgr1; have hB1 : Below w2.heap.size w2 u1 := ((Below.refl _ _).alloc (Nat.le_refl _) _).grown hgr1 (by simp) (by simp [Value.ownBlock]); rw [List.nil_append] at hown1; obtain ⟨g, cap, rest, rfl, hg, hglt, hh, hlc1, hcm, hs⟩ := hown1.row HNE.out)
  go_meet
  case rel => exact ⟨g, cap, rest, by simp, by simp [go_sem], hg, by simpa using hglt, (Below.heap_alloc _ _ _ hglt).trans hh, hlc1, hcm, hs, hB1.alloc hB1.size _⟩
 case' rest =>
  obtain ⟨g, cap, rest, rfl, hc8, hg, hg2, hh, hlc1, hcm, hs, hbw⟩ := hcut
  obtain ⟨b8, hb8⟩ : ∃ b, b = wc.heap.size - 1 := ⟨_, rfl⟩
  rw [← hb8] at hc8 hg2 ⊢
  have hb8lt : b8 < wc.heap.size := World.block_lt_of_cell? _ _ hc8
  have hgne : ¬ b8 = g := by omega
  have hgne2 : ¬ g = b8 := by omega
  have hglt : g < wc.heap.size := by omega
  have R3 := keepw hbw R2
  have RF3 := (hbw.frozen (p := ⟨w.heap.size + 1 + 1, 0, none⟩) y42).trans RF2
  have K23 := keepw hbw K22
  have r0 := keepw hbw p0
  have HB3 := Lib.hid (HB2.out.trans (hbw.mono HB2.out.size))
  have d0 := keepw hbw c0
  have d1 := keepw hbw c1
  have d2 := keepw hbw c2
  have d3 := keepw hbw c3
  have d4 := keepw hbw c4
  have d5 := keepw hbw c5
  have d6 := keepw hbw c6
  have y43 : w.heap.size + 1 + 1 < wc.heap.size := World.block_lt_of_cell? _ _ R3
  have y23 : w.heap.size < wc.heap.size := by omega
  have y33 : w.heap.size + 1 < wc.heap.size := by omega
  have hb1c : b1 < wc.heap.size := World.block_lt_of_cell? _ _ d0
  have hbig : b8 < wc.heap.size + 1 := by omega
  have hfit : k * 7 + 7 ≤ (flat l ++ rest).length := by rw [hs]; omega
  have hkc : (k : Int) < cap := by omega
  have HH := Lib.hid hh
  have HG := Lib.hid hg
  clear hbw c0 c1 c2 c3 c4 c5 c6 R2 RF2 K22 P32 hh hg hb8
  go_wp2_with (refine wpList_store_row rfl 27 (.tmp 128) (.tmp 127) rfl g (k * 7) (Item.cells { y with gone := true }) (flat l ++ rest) 27 (by first | rfl | (simp [Act.eval, Act.put]; done)) (by first | rfl | (simp [Act.eval, Act.put]; done)) ((Below.heap_alloc _ _ _ hglt).trans HH.out) hfit size7 (cells_one { y with gone := true }) ?_; generalize hWs : World.setRow _ g _ = Ws; have hWb : Below w.heap.size w Ws := (by rw [← hWs]; exact below_setRow (HB3.out.alloc HB3.out.size _) (by have := HG.out; omega) _); have e1 : Ws.cell? ⟨b8, 0, none⟩ = some (.slice (some ⟨g, 0, none⟩) l.length cap) := (by rw [← hWs, cell_setRow_other _ _ _ _ hgne]; exact keepw ((Below.refl _ wc).alloc (Nat.le_refl _) _) hc8); have e2 : Ws.cell? ⟨w.heap.size + 1 + 1, 0, none⟩ = some (.slice none 0 0) := (by rw [← hWs, cell_setRow_other _ _ _ _ (by have := HG.out; show w.heap.size + 1 + 1 ≠ g; omega)]; exact keepw ((Below.refl _ wc).alloc (Nat.le_refl _) _) R3); have e3 : Ws.frozen? ⟨w.heap.size + 1 + 1, 0, none⟩ = false := (frozen_of_cells e2 (by rw [← hWs]; exact fz_setRow ((((Below.refl _ wc).alloc (Nat.le_refl _) _).frozen (p := ⟨w.heap.size + 1 + 1, 0, none⟩) y43).trans RF3) (by have := HG.out; show w.heap.size + 1 + 1 ≠ g; omega))); have e4 : Ws.heap[g]? = some (.cells (flat (l.set k { y with gone := true }) ++ rest).toArray 27 (0, 0)) := (by rw [← hWs, setRow_heap _ _ _ _ _ _ ((Below.heap_alloc _ _ _ hglt).trans HH.out), flat_set l rest k _ hkl]); have e5 : w.heap.size + 1 + 1 < Ws.heap.size := World.block_lt_of_cell? _ _ e2; clear hWs)
  refine bodyPost_ret (v := .tuple #[.agg #[.slice (some ⟨g, 0, none⟩) l.length cap], .int .i64 0]) (by simp [results, Tryz.results38, go_sem, e2, e3, e5]) rfl ⟨_, rfl, ⟨some ⟨g, 0, none⟩, cap, by simp, RdI.of_row (cur := flat (l.set k { y with gone := true }) ++ rest) (rest := rest) (t := 27) ((Below.heap_setCell _ _ _ _ (by have := HG.out; show g ≠ w.heap.size + 1 + 1; omega)).trans e4) rfl, by simpa using hlc1, fun b o hA => by cases hA; have := HG.out; have := HB2.out.size; omega⟩, ?_⟩
  exact hWb.setCell (show w.heap.size ≤ w.heap.size + 1 + 1 by omega) _
theorem rap_6 (l : List Item) (A : Option Addr) (c : Nat) (p : Patch) (w : World) (hr : RdI w A l) (hl : l.length ≤ 100000) (hlc : l.length ≤ c) (hsh : ∀ x ∈ l, x.Short) (hps : p.item.Short) (hpn : p.num.length ≤ maxLen) (hfr : p.fr.length ≤ 1000000) (htt : p.to.length ≤ 1000000) (he : (applyF l p).2 = 0) (hk : p.kind = 6) (k : Nat) (y : Item) (hfi : findI l p.id = k) (hy : l[k]? = some y)  (hres : (applyF l p).1 = l.set k { y with gone := false }) : RApplies l A c p w := by
 unfold RApplies
 rw [hres, he]
 clear hres
 have kb1 : (p.kind == 1) = false := by simp [hk]
 have kb2 : (p.kind == 2) = false := by simp [hk]
 have kb3 : (p.kind == 3) = false := by simp [hk]
 have kb4 : (p.kind == 4) = false := by simp [hk]
 have kb5 : (p.kind == 5) = false := by simp [hk]
 have kb6 : (p.kind == 6) = true := by simp [hk]
 have kb7 : (p.kind == 7) = false := by simp [hk]
 have hkl : k < l.length := (List.getElem?_eq_some_iff.1 hy).1
 have hi0 : (0 : Int) ≤ k := by omega
 have hi1 : (k : Int) < l.length := by omega
 have hne : l ≠ [] := by rintro rfl; simp at hkl
 obtain ⟨b1, o1, hA, hbs1, -⟩ := hr.item hy
 subst hA
 have HFI := Lib.hid hfi; clear hfi
 have HY := Lib.hid hy; clear hy
 have HNE := Lib.hid hne; clear hne
 clear hk 
 have hb0 := (((Below.refl w.heap.size w).alloc (Nat.le_refl _) (.cells #[.slice (some ⟨b1, o1, none⟩) l.length c] 24)).alloc (by simp) (.cells (patCs p) 29)).alloc (by simp; omega) (.cells #[.slice none 0 0] 24)
 have HB0 := Lib.hid hb0; clear hb0
 have HR := Lib.hid hr; clear hr
 have HE := Lib.hid he; clear he
 have K20 : (((w.alloc (.cells #[.slice (some ⟨b1, o1, none⟩) l.length c] 24)).alloc (.cells (patCs p) 29)).alloc (.cells #[.slice none 0 0] 24)).cell? ⟨w.heap.size, 0, none⟩ = some (.slice (some ⟨b1, o1, none⟩) l.length c) := by simp [go_sem]
 have P30 : (((w.alloc (.cells #[.slice (some ⟨b1, o1, none⟩) l.length c] 24)).alloc (.cells (patCs p) 29)).alloc (.cells #[.slice none 0 0] 24)).blk (w.heap.size + 1) = some (.cells (patCs p) 29 (0, 0)) := by simp [go_sem]
 have R0 : (((w.alloc (.cells #[.slice (some ⟨b1, o1, none⟩) l.length c] 24)).alloc (.cells (patCs p) 29)).alloc (.cells #[.slice none 0 0] 24)).cell? ⟨w.heap.size + 1 + 1, 0, none⟩ = some (.slice none 0 0) := by simp [go_sem]
 have RF0 : (((w.alloc (.cells #[.slice (some ⟨b1, o1, none⟩) l.length c] 24)).alloc (.cells (patCs p) 29)).alloc (.cells #[.slice none 0 0] 24)).frozen? ⟨w.heap.size + 1 + 1, 0, none⟩ = false := by simp [go_sem]
 have z0 : w.heap.size + 1 + 1 < (((w.alloc (.cells #[.slice (some ⟨b1, o1, none⟩) l.length c] 24)).alloc (.cells (patCs p) 29)).alloc (.cells #[.slice none 0 0] 24)).heap.size := by simp
 have hsz0 : (((w.alloc (.cells #[.slice (some ⟨b1, o1, none⟩) l.length c] 24)).alloc (.cells (patCs p) 29)).alloc (.cells #[.slice none 0 0] 24)).heap.size = w.heap.size + 1 + 1 + 1 := by simp
 have HSZ0 := Lib.hid hsz0; clear hsz0
 go_enter Tryz.func38, Tryz.ntmps38
 go_wp2_with fail
 refine (rfail_any l _ c p _ (HR.out.below HB0.out) (by omega) hsh hps hpn hfr htt).mono ?_
 rintro e w1 ⟨rfl, hb1⟩
 rw [HE.out]
 have K21 := keepw hb1 K20
 have P31 := rkeepk hb1 P30
 have R1 := keepw hb1 R0
 have RF1 := (hb1.frozen (p := ⟨w.heap.size + 1 + 1, 0, none⟩) z0).trans RF0
 have HB1 := Lib.hid (HB0.out.trans (hb1.mono HB0.out.size))
 have y21 : w.heap.size < w1.heap.size := World.block_lt_of_cell? _ _ K21
 have y31 : w.heap.size + 1 < w1.heap.size := lt_of_heap P31
 have y41 : w.heap.size + 1 + 1 < w1.heap.size := World.block_lt_of_cell? _ _ R1
 have HR1 := Lib.hid (HR.out.below HB1.out)
 clear hb1 K20 P30 R0 RF0 z0
 have c0 : w1.cell? ⟨w.heap.size + 1, 0, none⟩ = some (.int .i64 p.kind) := cell_of_blk P31 rfl
 have c1 : w1.cell? ⟨w.heap.size + 1, 1, none⟩ = some (vs p.id) := cell_of_blk P31 rfl
 go_wp2_with fail
 refine (rfind_at HFI.out _ _ _ HR1.out (le_maxLen (by omega))).mono ?_
 rintro e w2 ⟨rfl, hb2⟩
 have K22 := keepw hb2 K21
 have P32 := rkeepk hb2 P31
 have R2 := keepw hb2 R1
 have RF2 := (hb2.frozen (p := ⟨w.heap.size + 1 + 1, 0, none⟩) y41).trans RF1
 have HB2 := Lib.hid (HB1.out.trans (hb2.mono HB1.out.size))
 have y42 : w.heap.size + 1 + 1 < w2.heap.size := World.block_lt_of_cell? _ _ R2
 have y22 : w.heap.size < w2.heap.size := by omega
 have y32 : w.heap.size + 1 < w2.heap.size := by omega
 have HR2 := Lib.hid (HR.out.below HB2.out)
 clear hb2 K21 P31 R1 RF1 HB1 y21 y31 y41 HR1 c0 c1
 have p0 : w2.cell? ⟨w.heap.size + 1, 0, none⟩ = some (.int .i64 p.kind) := cell_of_blk P32 rfl
 obtain ⟨b9, o9, hA9, hbs9, c0, c1, c2, c3, c4, c5, c6⟩ := HR2.out.item HY.out
 cases hA9
 go_upto_region 7 with (fail)
 go_cut [8] (fun v8 wc => ∃ (g cap : Nat) (rest : List Value), v8 = .pointer (some ⟨wc.heap.size - 1, 0, none⟩) ∧ wc.cell? ⟨wc.heap.size - 1, 0, none⟩ = some (.slice (some ⟨g, 0, none⟩) l.length cap) ∧ w2.heap.size ≤ g ∧ g < wc.heap.size - 1 ∧ wc.heap[g]? = some (.cells (flat l ++ rest).toArray 27 (0, 0)) ∧ l.length ≤ cap ∧ cap ≤ maxLen ∧ (flat l ++ rest).length = cap * 7 ∧ Below w2.heap.size w2 wc)
 case first =>
  go_wp2_with (at_builtin; refine wpList_append_items rfl (.tmp 36) (.tmp 38) rfl rfl w2.heap.size (.slice (some ⟨w2.heap.size, 0, none⟩) 0 0) [] _ l _ _ rfl rfl rfl (made_empty w2) (HR2.out.below ((Below.refl _ _).alloc (Nat.le_refl _) _)) (by simp; omega) (by simp) ?_; intro v1 u1 hown1 hgr1; have hB1 : Below w2.heap.size w2 u1 := ((Below.refl _ _).alloc (Nat.le_refl _) _).grown hgr1 (by simp) (by simp [Value.ownBlock]); rw [List.nil_append] at hown1; obtain ⟨g, cap, rest, rfl, hg, hglt, hh, hlc1, hcm, hs⟩ := hown1.row HNE.out)
  go_meet
  case rel => exact ⟨g, cap, rest, by simp, by simp [go_sem], hg, by simpa using hglt, (Below.heap_alloc _ _ _ hglt).trans hh, hlc1, hcm, hs, hB1.alloc hB1.size _⟩
 case' rest =>
  obtain ⟨g, cap, rest, rfl, hc8, hg, hg2, hh, hlc1, hcm, hs, hbw⟩ := hcut
  obtain ⟨b8, hb8⟩ : ∃ b, b = wc.heap.size - 1 := ⟨_, rfl⟩
  rw [← hb8] at hc8 hg2 ⊢
  have hb8lt : b8 < wc.heap.size := World.block_lt_of_cell? _ _ hc8
  have hgne : ¬ b8 = g := by omega
  have hgne2 : ¬ g = b8 := by omega
  have hglt : g < wc.heap.size := by omega
  have R3 := keepw hbw R2
  have RF3 := (hbw.frozen (p := ⟨w.heap.size + 1 + 1, 0, none⟩) y42).trans RF2
  have K23 := keepw hbw K22
  have r0 := keepw hbw p0
  have HB3 := Lib.hid (HB2.out.trans (hbw.mono HB2.out.size))
  have d0 := keepw hbw c0
  have d1 := keepw hbw c1
  have d2 := keepw hbw c2
  have d3 := keepw hbw c3
  have d4 := keepw hbw c4
  have d5 := keepw hbw c5
  have d6 := keepw hbw c6
  have y43 : w.heap.size + 1 + 1 < wc.heap.size := World.block_lt_of_cell? _ _ R3
  have y23 : w.heap.size < wc.heap.size := by omega
  have y33 : w.heap.size + 1 < wc.heap.size := by omega
  have hb1c : b1 < wc.heap.size := World.block_lt_of_cell? _ _ d0
  have hbig : b8 < wc.heap.size + 1 := by omega
  have hfit : k * 7 + 7 ≤ (flat l ++ rest).length := by rw [hs]; omega
  have hkc : (k : Int) < cap := by omega
  have HH := Lib.hid hh
  have HG := Lib.hid hg
  clear hbw c0 c1 c2 c3 c4 c5 c6 R2 RF2 K22 P32 hh hg hb8
  go_wp2_with (refine wpList_store_row rfl 27 (.tmp 128) (.tmp 127) rfl g (k * 7) (Item.cells { y with gone := false }) (flat l ++ rest) 27 (by first | rfl | (simp [Act.eval, Act.put]; done)) (by first | rfl | (simp [Act.eval, Act.put]; done)) ((Below.heap_alloc _ _ _ hglt).trans HH.out) hfit size7 (cells_one { y with gone := false }) ?_; generalize hWs : World.setRow _ g _ = Ws; have hWb : Below w.heap.size w Ws := (by rw [← hWs]; exact below_setRow (HB3.out.alloc HB3.out.size _) (by have := HG.out; omega) _); have e1 : Ws.cell? ⟨b8, 0, none⟩ = some (.slice (some ⟨g, 0, none⟩) l.length cap) := (by rw [← hWs, cell_setRow_other _ _ _ _ hgne]; exact keepw ((Below.refl _ wc).alloc (Nat.le_refl _) _) hc8); have e2 : Ws.cell? ⟨w.heap.size + 1 + 1, 0, none⟩ = some (.slice none 0 0) := (by rw [← hWs, cell_setRow_other _ _ _ _ (by have := HG.out; show w.heap.size + 1 + 1 ≠ g; omega)]; exact keepw ((Below.refl _ wc).alloc (Nat.le_refl _) _) R3); have e3 : Ws.frozen? ⟨w.heap.size + 1 + 1, 0, none⟩ = false := (frozen_of_cells e2 (by rw [← hWs]; exact fz_setRow ((((Below.refl _ wc).alloc (Nat.le_refl _) _).frozen (p := ⟨w.heap.size + 1 + 1, 0, none⟩) y43).trans RF3) (by have := HG.out; show w.heap.size + 1 + 1 ≠ g; omega))); have e4 : Ws.heap[g]? = some (.cells (flat (l.set k { y with gone := false }) ++ rest).toArray 27 (0, 0)) := (by rw [← hWs, setRow_heap _ _ _ _ _ _ ((Below.heap_alloc _ _ _ hglt).trans HH.out), flat_set l rest k _ hkl]); have e5 : w.heap.size + 1 + 1 < Ws.heap.size := World.block_lt_of_cell? _ _ e2; clear hWs)
  refine bodyPost_ret (v := .tuple #[.agg #[.slice (some ⟨g, 0, none⟩) l.length cap], .int .i64 0]) (by simp [results, Tryz.results38, go_sem, e2, e3, e5]) rfl ⟨_, rfl, ⟨some ⟨g, 0, none⟩, cap, by simp, RdI.of_row (cur := flat (l.set k { y with gone := false }) ++ rest) (rest := rest) (t := 27) ((Below.heap_setCell _ _ _ _ (by have := HG.out; show g ≠ w.heap.size + 1 + 1; omega)).trans e4) rfl, by simpa using hlc1, fun b o hA => by cases hA; have := HG.out; have := HB2.out.size; omega⟩, ?_⟩
  exact hWb.setCell (show w.heap.size ≤ w.heap.size + 1 + 1 by omega) _
theorem rap_7 (l : List Item) (A : Option Addr) (c : Nat) (p : Patch) (w : World) (hr : RdI w A l) (hl : l.length ≤ 100000) (hlc : l.length ≤ c) (hsh : ∀ x ∈ l, x.Short) (hps : p.item.Short) (hpn : p.num.length ≤ maxLen) (hfr : p.fr.length ≤ 1000000) (htt : p.to.length ≤ 1000000) (he : (applyF l p).2 = 0) (hk : p.kind = 7) (k : Nat) (y : Item) (hfi : findI l p.id = k) (hy : l[k]? = some y)  (hres : (applyF l p).1 = l.set k { y with no := p.item.no, so := p.item.so }) : RApplies l A c p w := by
 unfold RApplies
 rw [hres, he]
 clear hres
 have kb1 : (p.kind == 1) = false := by simp [hk]
 have kb2 : (p.kind == 2) = false := by simp [hk]
 have kb3 : (p.kind == 3) = false := by simp [hk]
 have kb4 : (p.kind == 4) = false := by simp [hk]
 have kb5 : (p.kind == 5) = false := by simp [hk]
 have kb6 : (p.kind == 6) = false := by simp [hk]
 have kb7 : (p.kind == 7) = true := by simp [hk]
 have hkl : k < l.length := (List.getElem?_eq_some_iff.1 hy).1
 have hi0 : (0 : Int) ≤ k := by omega
 have hi1 : (k : Int) < l.length := by omega
 have hne : l ≠ [] := by rintro rfl; simp at hkl
 obtain ⟨b1, o1, hA, hbs1, -⟩ := hr.item hy
 subst hA
 have HFI := Lib.hid hfi; clear hfi
 have HY := Lib.hid hy; clear hy
 have HNE := Lib.hid hne; clear hne
 clear hk 
 have hb0 := (((Below.refl w.heap.size w).alloc (Nat.le_refl _) (.cells #[.slice (some ⟨b1, o1, none⟩) l.length c] 24)).alloc (by simp) (.cells (patCs p) 29)).alloc (by simp; omega) (.cells #[.slice none 0 0] 24)
 have HB0 := Lib.hid hb0; clear hb0
 have HR := Lib.hid hr; clear hr
 have HE := Lib.hid he; clear he
 have K20 : (((w.alloc (.cells #[.slice (some ⟨b1, o1, none⟩) l.length c] 24)).alloc (.cells (patCs p) 29)).alloc (.cells #[.slice none 0 0] 24)).cell? ⟨w.heap.size, 0, none⟩ = some (.slice (some ⟨b1, o1, none⟩) l.length c) := by simp [go_sem]
 have P30 : (((w.alloc (.cells #[.slice (some ⟨b1, o1, none⟩) l.length c] 24)).alloc (.cells (patCs p) 29)).alloc (.cells #[.slice none 0 0] 24)).blk (w.heap.size + 1) = some (.cells (patCs p) 29 (0, 0)) := by simp [go_sem]
 have R0 : (((w.alloc (.cells #[.slice (some ⟨b1, o1, none⟩) l.length c] 24)).alloc (.cells (patCs p) 29)).alloc (.cells #[.slice none 0 0] 24)).cell? ⟨w.heap.size + 1 + 1, 0, none⟩ = some (.slice none 0 0) := by simp [go_sem]
 have RF0 : (((w.alloc (.cells #[.slice (some ⟨b1, o1, none⟩) l.length c] 24)).alloc (.cells (patCs p) 29)).alloc (.cells #[.slice none 0 0] 24)).frozen? ⟨w.heap.size + 1 + 1, 0, none⟩ = false := by simp [go_sem]
 have z0 : w.heap.size + 1 + 1 < (((w.alloc (.cells #[.slice (some ⟨b1, o1, none⟩) l.length c] 24)).alloc (.cells (patCs p) 29)).alloc (.cells #[.slice none 0 0] 24)).heap.size := by simp
 have hsz0 : (((w.alloc (.cells #[.slice (some ⟨b1, o1, none⟩) l.length c] 24)).alloc (.cells (patCs p) 29)).alloc (.cells #[.slice none 0 0] 24)).heap.size = w.heap.size + 1 + 1 + 1 := by simp
 have HSZ0 := Lib.hid hsz0; clear hsz0
 go_enter Tryz.func38, Tryz.ntmps38
 go_wp2_with fail
 refine (rfail_any l _ c p _ (HR.out.below HB0.out) (by omega) hsh hps hpn hfr htt).mono ?_
 rintro e w1 ⟨rfl, hb1⟩
 rw [HE.out]
 have K21 := keepw hb1 K20
 have P31 := rkeepk hb1 P30
 have R1 := keepw hb1 R0
 have RF1 := (hb1.frozen (p := ⟨w.heap.size + 1 + 1, 0, none⟩) z0).trans RF0
 have HB1 := Lib.hid (HB0.out.trans (hb1.mono HB0.out.size))
 have y21 : w.heap.size < w1.heap.size := World.block_lt_of_cell? _ _ K21
 have y31 : w.heap.size + 1 < w1.heap.size := lt_of_heap P31
 have y41 : w.heap.size + 1 + 1 < w1.heap.size := World.block_lt_of_cell? _ _ R1
 have HR1 := Lib.hid (HR.out.below HB1.out)
 clear hb1 K20 P30 R0 RF0 z0
 have c0 : w1.cell? ⟨w.heap.size + 1, 0, none⟩ = some (.int .i64 p.kind) := cell_of_blk P31 rfl
 have c1 : w1.cell? ⟨w.heap.size + 1, 1, none⟩ = some (vs p.id) := cell_of_blk P31 rfl
 go_wp2_with fail
 refine (rfind_at HFI.out _ _ _ HR1.out (le_maxLen (by omega))).mono ?_
 rintro e w2 ⟨rfl, hb2⟩
 have K22 := keepw hb2 K21
 have P32 := rkeepk hb2 P31
 have R2 := keepw hb2 R1
 have RF2 := (hb2.frozen (p := ⟨w.heap.size + 1 + 1, 0, none⟩) y41).trans RF1
 have HB2 := Lib.hid (HB1.out.trans (hb2.mono HB1.out.size))
 have y42 : w.heap.size + 1 + 1 < w2.heap.size := World.block_lt_of_cell? _ _ R2
 have y22 : w.heap.size < w2.heap.size := by omega
 have y32 : w.heap.size + 1 < w2.heap.size := by omega
 have HR2 := Lib.hid (HR.out.below HB2.out)
 clear hb2 K21 P31 R1 RF1 HB1 y21 y31 y41 HR1 c0 c1
 have p0 : w2.cell? ⟨w.heap.size + 1, 0, none⟩ = some (.int .i64 p.kind) := cell_of_blk P32 rfl
 have p9 : w2.cell? ⟨w.heap.size + 1, 9, none⟩ = some (vs p.item.no) := cell_of_blk P32 rfl
 have p10 : w2.cell? ⟨w.heap.size + 1, 10, none⟩ = some (vs p.item.so) := cell_of_blk P32 rfl
 obtain ⟨b9, o9, hA9, hbs9, c0, c1, c2, c3, c4, c5, c6⟩ := HR2.out.item HY.out
 cases hA9
 go_upto_region 7 with (fail)
 go_cut [8] (fun v8 wc => ∃ (g cap : Nat) (rest : List Value), v8 = .pointer (some ⟨wc.heap.size - 1, 0, none⟩) ∧ wc.cell? ⟨wc.heap.size - 1, 0, none⟩ = some (.slice (some ⟨g, 0, none⟩) l.length cap) ∧ w2.heap.size ≤ g ∧ g < wc.heap.size - 1 ∧ wc.heap[g]? = some (.cells (flat l ++ rest).toArray 27 (0, 0)) ∧ l.length ≤ cap ∧ cap ≤ maxLen ∧ (flat l ++ rest).length = cap * 7 ∧ Below w2.heap.size w2 wc)
 case first =>
  go_wp2_with (at_builtin; refine wpList_append_items rfl (.tmp 36) (.tmp 38) rfl rfl w2.heap.size (.slice (some ⟨w2.heap.size, 0, none⟩) 0 0) [] _ l _ _ rfl rfl rfl (made_empty w2) (HR2.out.below ((Below.refl _ _).alloc (Nat.le_refl _) _)) (by simp; omega) (by simp) ?_; intro v1 u1 hown1 hgr1; have hB1 : Below w2.heap.size w2 u1 := ((Below.refl _ _).alloc (Nat.le_refl _) _).grown hgr1 (by simp) (by simp [Value.ownBlock]); rw [List.nil_append] at hown1; obtain ⟨g, cap, rest, rfl, hg, hglt, hh, hlc1, hcm, hs⟩ := hown1.row HNE.out)
  go_meet
  case rel => exact ⟨g, cap, rest, by simp, by simp [go_sem], hg, by simpa using hglt, (Below.heap_alloc _ _ _ hglt).trans hh, hlc1, hcm, hs, hB1.alloc hB1.size _⟩
 case' rest =>
  obtain ⟨g, cap, rest, rfl, hc8, hg, hg2, hh, hlc1, hcm, hs, hbw⟩ := hcut
  obtain ⟨b8, hb8⟩ : ∃ b, b = wc.heap.size - 1 := ⟨_, rfl⟩
  rw [← hb8] at hc8 hg2 ⊢
  have hb8lt : b8 < wc.heap.size := World.block_lt_of_cell? _ _ hc8
  have hgne : ¬ b8 = g := by omega
  have hgne2 : ¬ g = b8 := by omega
  have hglt : g < wc.heap.size := by omega
  have R3 := keepw hbw R2
  have RF3 := (hbw.frozen (p := ⟨w.heap.size + 1 + 1, 0, none⟩) y42).trans RF2
  have K23 := keepw hbw K22
  have r0 := keepw hbw p0
  have r9 := keepw hbw p9
  have r10 := keepw hbw p10
  have HB3 := Lib.hid (HB2.out.trans (hbw.mono HB2.out.size))
  have d0 := keepw hbw c0
  have d1 := keepw hbw c1
  have d2 := keepw hbw c2
  have d3 := keepw hbw c3
  have d4 := keepw hbw c4
  have d5 := keepw hbw c5
  have d6 := keepw hbw c6
  have y43 : w.heap.size + 1 + 1 < wc.heap.size := World.block_lt_of_cell? _ _ R3
  have y23 : w.heap.size < wc.heap.size := by omega
  have y33 : w.heap.size + 1 < wc.heap.size := by omega
  have hb1c : b1 < wc.heap.size := World.block_lt_of_cell? _ _ d0
  have hbig : b8 < wc.heap.size + 1 := by omega
  have hfit : k * 7 + 7 ≤ (flat l ++ rest).length := by rw [hs]; omega
  have hkc : (k : Int) < cap := by omega
  have HH := Lib.hid hh
  have HG := Lib.hid hg
  clear hbw c0 c1 c2 c3 c4 c5 c6 R2 RF2 K22 P32 hh hg hb8
  go_wp2_with (refine wpList_store_row rfl 27 (.tmp 128) (.tmp 127) rfl g (k * 7) (Item.cells { y with no := p.item.no, so := p.item.so }) (flat l ++ rest) 27 (by first | rfl | (simp [Act.eval, Act.put]; done)) (by first | rfl | (simp [Act.eval, Act.put]; done)) ((Below.heap_alloc _ _ _ hglt).trans HH.out) hfit size7 (cells_one { y with no := p.item.no, so := p.item.so }) ?_; generalize hWs : World.setRow _ g _ = Ws; have hWb : Below w.heap.size w Ws := (by rw [← hWs]; exact below_setRow (HB3.out.alloc HB3.out.size _) (by have := HG.out; omega) _); have e1 : Ws.cell? ⟨b8, 0, none⟩ = some (.slice (some ⟨g, 0, none⟩) l.length cap) := (by rw [← hWs, cell_setRow_other _ _ _ _ hgne]; exact keepw ((Below.refl _ wc).alloc (Nat.le_refl _) _) hc8); have e2 : Ws.cell? ⟨w.heap.size + 1 + 1, 0, none⟩ = some (.slice none 0 0) := (by rw [← hWs, cell_setRow_other _ _ _ _ (by have := HG.out; show w.heap.size + 1 + 1 ≠ g; omega)]; exact keepw ((Below.refl _ wc).alloc (Nat.le_refl _) _) R3); have e3 : Ws.frozen? ⟨w.heap.size + 1 + 1, 0, none⟩ = false := (frozen_of_cells e2 (by rw [← hWs]; exact fz_setRow ((((Below.refl _ wc).alloc (Nat.le_refl _) _).frozen (p := ⟨w.heap.size + 1 + 1, 0, none⟩) y43).trans RF3) (by have := HG.out; show w.heap.size + 1 + 1 ≠ g; omega))); have e4 : Ws.heap[g]? = some (.cells (flat (l.set k { y with no := p.item.no, so := p.item.so }) ++ rest).toArray 27 (0, 0)) := (by rw [← hWs, setRow_heap _ _ _ _ _ _ ((Below.heap_alloc _ _ _ hglt).trans HH.out), flat_set l rest k _ hkl]); have e5 : w.heap.size + 1 + 1 < Ws.heap.size := World.block_lt_of_cell? _ _ e2; clear hWs)
  refine bodyPost_ret (v := .tuple #[.agg #[.slice (some ⟨g, 0, none⟩) l.length cap], .int .i64 0]) (by simp [results, Tryz.results38, go_sem, e2, e3, e5]) rfl ⟨_, rfl, ⟨some ⟨g, 0, none⟩, cap, by simp, RdI.of_row (cur := flat (l.set k { y with no := p.item.no, so := p.item.so }) ++ rest) (rest := rest) (t := 27) ((Below.heap_setCell _ _ _ _ (by have := HG.out; show g ≠ w.heap.size + 1 + 1; omega)).trans e4) rfl, by simpa using hlc1, fun b o hA => by cases hA; have := HG.out; have := HB2.out.size; omega⟩, ?_⟩
  exact hWb.setCell (show w.heap.size ≤ w.heap.size + 1 + 1 by omega) _
end Go.Proofs.YtfolcjkednmkoaaGreat
set_option maxRecDepth 20000
set_option maxHeartbeats 8000000
namespace Go.Proofs.YtfolcjkednmkoaaGreat
open Go.RowKit
theorem rap_2no (l : List Item) (A : Option Addr) (c : Nat) (p : Patch) (w : World) (hr : RdI w A l) (hl : l.length ≤ 100000) (hlc : l.length ≤ c) (hsh : ∀ x ∈ l, x.Short) (hps : p.item.Short) (hpn : p.num.length ≤ maxLen) (hfr : p.fr.length ≤ 1000000) (htt : p.to.length ≤ 1000000) (he : (applyF l p).2 = 0) (hk : p.kind = 2) (k : Nat) (y : Item) (hfi : findI l p.id = k) (hy : l[k]? = some y) (hla : p.lang = 1) (hno : y.no.length ≤ 400) (hso : y.so.length ≤ 400) (ri : Nat) (hri : onceAt y.no p.fr = ri) (hro : ri + p.fr.length ≤ y.no.length) (N : Str) (hN : N = swap y.no p.fr p.to ri) (hres : (applyF l p).1 = l.set k { y with no := N }) : RApplies l A c p w := by
 unfold RApplies
 rw [hres, he]
 clear hres
 have kb1 : (p.kind == 1) = false := by simp [hk]
 have kb2 : (p.kind == 2) = true := by simp [hk]
 have kb3 : (p.kind == 3) = false := by simp [hk]
 have kb4 : (p.kind == 4) = false := by simp [hk]
 have kb5 : (p.kind == 5) = false := by simp [hk]
 have kb6 : (p.kind == 6) = false := by simp [hk]
 have kb7 : (p.kind == 7) = false := by simp [hk]
 have la1 : (p.lang == 1) = true := by simp [hla]
 have HRI := Lib.hid hri; clear hri
 have HN := Lib.hid hN; clear hN
 have hkl : k < l.length := (List.getElem?_eq_some_iff.1 hy).1
 have hi0 : (0 : Int) ≤ k := by omega
 have hi1 : (k : Int) < l.length := by omega
 have hne : l ≠ [] := by rintro rfl; simp at hkl
 obtain ⟨b1, o1, hA, hbs1, -⟩ := hr.item hy
 subst hA
 have HFI := Lib.hid hfi; clear hfi
 have HY := Lib.hid hy; clear hy
 have HNE := Lib.hid hne; clear hne
 clear hk hla
 have hb0 := (((Below.refl w.heap.size w).alloc (Nat.le_refl _) (.cells #[.slice (some ⟨b1, o1, none⟩) l.length c] 24)).alloc (by simp) (.cells (patCs p) 29)).alloc (by simp; omega) (.cells #[.slice none 0 0] 24)
 have HB0 := Lib.hid hb0; clear hb0
 have HR := Lib.hid hr; clear hr
 have HE := Lib.hid he; clear he
 have K20 : (((w.alloc (.cells #[.slice (some ⟨b1, o1, none⟩) l.length c] 24)).alloc (.cells (patCs p) 29)).alloc (.cells #[.slice none 0 0] 24)).cell? ⟨w.heap.size, 0, none⟩ = some (.slice (some ⟨b1, o1, none⟩) l.length c) := by simp [go_sem]
 have P30 : (((w.alloc (.cells #[.slice (some ⟨b1, o1, none⟩) l.length c] 24)).alloc (.cells (patCs p) 29)).alloc (.cells #[.slice none 0 0] 24)).blk (w.heap.size + 1) = some (.cells (patCs p) 29 (0, 0)) := by simp [go_sem]
 have R0 : (((w.alloc (.cells #[.slice (some ⟨b1, o1, none⟩) l.length c] 24)).alloc (.cells (patCs p) 29)).alloc (.cells #[.slice none 0 0] 24)).cell? ⟨w.heap.size + 1 + 1, 0, none⟩ = some (.slice none 0 0) := by simp [go_sem]
 have RF0 : (((w.alloc (.cells #[.slice (some ⟨b1, o1, none⟩) l.length c] 24)).alloc (.cells (patCs p) 29)).alloc (.cells #[.slice none 0 0] 24)).frozen? ⟨w.heap.size + 1 + 1, 0, none⟩ = false := by simp [go_sem]
 have z0 : w.heap.size + 1 + 1 < (((w.alloc (.cells #[.slice (some ⟨b1, o1, none⟩) l.length c] 24)).alloc (.cells (patCs p) 29)).alloc (.cells #[.slice none 0 0] 24)).heap.size := by simp
 have hsz0 : (((w.alloc (.cells #[.slice (some ⟨b1, o1, none⟩) l.length c] 24)).alloc (.cells (patCs p) 29)).alloc (.cells #[.slice none 0 0] 24)).heap.size = w.heap.size + 1 + 1 + 1 := by simp
 have HSZ0 := Lib.hid hsz0; clear hsz0
 go_enter Tryz.func38, Tryz.ntmps38
 go_wp2_with fail
 refine (rfail_any l _ c p _ (HR.out.below HB0.out) (by omega) hsh hps hpn hfr htt).mono ?_
 rintro e w1 ⟨rfl, hb1⟩
 rw [HE.out]
 have K21 := keepw hb1 K20
 have P31 := rkeepk hb1 P30
 have R1 := keepw hb1 R0
 have RF1 := (hb1.frozen (p := ⟨w.heap.size + 1 + 1, 0, none⟩) z0).trans RF0
 have HB1 := Lib.hid (HB0.out.trans (hb1.mono HB0.out.size))
 have y21 : w.heap.size < w1.heap.size := World.block_lt_of_cell? _ _ K21
 have y31 : w.heap.size + 1 < w1.heap.size := lt_of_heap P31
 have y41 : w.heap.size + 1 + 1 < w1.heap.size := World.block_lt_of_cell? _ _ R1
 have HR1 := Lib.hid (HR.out.below HB1.out)
 clear hb1 K20 P30 R0 RF0 z0
 have c0 : w1.cell? ⟨w.heap.size + 1, 0, none⟩ = some (.int .i64 p.kind) := cell_of_blk P31 rfl
 have c1 : w1.cell? ⟨w.heap.size + 1, 1, none⟩ = some (vs p.id) := cell_of_blk P31 rfl
 go_wp2_with fail
 refine (rfind_at HFI.out _ _ _ HR1.out (le_maxLen (by omega))).mono ?_
 rintro e w2 ⟨rfl, hb2⟩
 have K22 := keepw hb2 K21
 have P32 := rkeepk hb2 P31
 have R2 := keepw hb2 R1
 have RF2 := (hb2.frozen (p := ⟨w.heap.size + 1 + 1, 0, none⟩) y41).trans RF1
 have HB2 := Lib.hid (HB1.out.trans (hb2.mono HB1.out.size))
 have y42 : w.heap.size + 1 + 1 < w2.heap.size := World.block_lt_of_cell? _ _ R2
 have y22 : w.heap.size < w2.heap.size := by omega
 have y32 : w.heap.size + 1 < w2.heap.size := by omega
 have HR2 := Lib.hid (HR.out.below HB2.out)
 clear hb2 K21 P31 R1 RF1 HB1 y21 y31 y41 HR1 c0 c1
 have p0 : w2.cell? ⟨w.heap.size + 1, 0, none⟩ = some (.int .i64 p.kind) := cell_of_blk P32 rfl
 have p12 : w2.cell? ⟨w.heap.size + 1, 12, none⟩ = some (.int .i64 p.lang) := cell_of_blk P32 rfl
 have p13 : w2.cell? ⟨w.heap.size + 1, 13, none⟩ = some (vs p.fr) := cell_of_blk P32 rfl
 have p14 : w2.cell? ⟨w.heap.size + 1, 14, none⟩ = some (vs p.to) := cell_of_blk P32 rfl
 obtain ⟨b9, o9, hA9, hbs9, c0, c1, c2, c3, c4, c5, c6⟩ := HR2.out.item HY.out
 cases hA9
 go_upto_region 7 with (fail)
 go_cut [8] (fun v8 wc => ∃ (g cap : Nat) (rest : List Value), v8 = .pointer (some ⟨wc.heap.size - 1, 0, none⟩) ∧ wc.cell? ⟨wc.heap.size - 1, 0, none⟩ = some (.slice (some ⟨g, 0, none⟩) l.length cap) ∧ w2.heap.size ≤ g ∧ g < wc.heap.size - 1 ∧ wc.heap[g]? = some (.cells (flat l ++ rest).toArray 27 (0, 0)) ∧ l.length ≤ cap ∧ cap ≤ maxLen ∧ (flat l ++ rest).length = cap * 7 ∧ Below w2.heap.size w2 wc)
 case first =>
  go_wp2_with (at_builtin; refine wpList_append_items rfl (.tmp 36) (.tmp 38) rfl rfl w2.heap.size (.slice (some ⟨w2.heap.size, 0, none⟩) 0 0) [] _ l _ _ rfl rfl rfl (made_empty w2) (HR2.out.below ((Below.refl _ _).alloc (Nat.le_refl _) _)) (by simp; omega) (by simp) ?_; intro v1 u1 hown1 hgr1; have hB1 : Below w2.heap.size w2 u1 := ((Below.refl _ _).alloc (Nat.le_refl _) _).grown hgr1 (by simp) (by simp [Value.ownBlock]); rw [List.nil_append] at hown1; obtain ⟨g, cap, rest, rfl, hg, hglt, hh, hlc1, hcm, hs⟩ := hown1.row HNE.out)
  go_meet
  case rel => exact ⟨g, cap, rest, by simp, by simp [go_sem], hg, by simpa using hglt, (Below.heap_alloc _ _ _ hglt).trans hh, hlc1, hcm, hs, hB1.alloc hB1.size _⟩
 case' rest =>
  obtain ⟨g, cap, rest, rfl, hc8, hg, hg2, hh, hlc1, hcm, hs, hbw⟩ := hcut
  obtain ⟨b8, hb8⟩ : ∃ b, b = wc.heap.size - 1 := ⟨_, rfl⟩
  rw [← hb8] at hc8 hg2 ⊢
  have hb8lt : b8 < wc.heap.size := World.block_lt_of_cell? _ _ hc8
  have hgne : ¬ b8 = g := by omega
  have hgne2 : ¬ g = b8 := by omega
  have hglt : g < wc.heap.size := by omega
  have R3 := keepw hbw R2
  have RF3 := (hbw.frozen (p := ⟨w.heap.size + 1 + 1, 0, none⟩) y42).trans RF2
  have K23 := keepw hbw K22
  have r0 := keepw hbw p0
  have r12 := keepw hbw p12
  have r13 := keepw hbw p13
  have r14 := keepw hbw p14
  have HB3 := Lib.hid (HB2.out.trans (hbw.mono HB2.out.size))
  have d0 := keepw hbw c0
  have d1 := keepw hbw c1
  have d2 := keepw hbw c2
  have d3 := keepw hbw c3
  have d4 := keepw hbw c4
  have d5 := keepw hbw c5
  have d6 := keepw hbw c6
  have y43 : w.heap.size + 1 + 1 < wc.heap.size := World.block_lt_of_cell? _ _ R3
  have y23 : w.heap.size < wc.heap.size := by omega
  have y33 : w.heap.size + 1 < wc.heap.size := by omega
  have hb1c : b1 < wc.heap.size := World.block_lt_of_cell? _ _ d0
  have hbig : b8 < wc.heap.size + 1 := by omega
  have hfit : k * 7 + 7 ≤ (flat l ++ rest).length := by rw [hs]; omega
  have hkc : (k : Int) < cap := by omega
  have HH := Lib.hid hh
  have HG := Lib.hid hg
  clear hbw c0 c1 c2 c3 c4 c5 c6 R2 RF2 K22 P32 hh hg hb8
  go_wp2_with fail
  refine (rreplaced_any y.no p.fr p.to ri _ (by omega) (by omega) (by omega) HRI.out hro).mono ?_
  rintro e w5 ⟨rfl, hb5⟩
  rw [← HN.out]
  have hbx : Below wc.heap.size wc w5 := ((Below.refl _ _).alloc (Nat.le_refl _) _).trans (hb5.mono (by simp))
  have f8 := keepw hbx hc8
  have fR := keepw hbx R3
  have fF := (hbx.frozen (p := ⟨w.heap.size + 1 + 1, 0, none⟩) y43).trans RF3
  have HH5 := Lib.hid ((hbx.block g hglt).trans HH.out)
  have HB5 := Lib.hid (HB3.out.trans (hbx.mono HB3.out.size))
  have x0 : w5.cell? ⟨wc.heap.size, 0, none⟩ = some (.int .i64 y.kind) := (hb5.cell (p := ⟨wc.heap.size, 0, none⟩) (by simp)).trans (by simp [go_sem])
  have x1 : w5.cell? ⟨wc.heap.size, 1, none⟩ = some (vs y.id) := (hb5.cell (p := ⟨wc.heap.size, 1, none⟩) (by simp)).trans (by simp [go_sem])
  have x2 : w5.cell? ⟨wc.heap.size, 2, none⟩ = some (vs y.par) := (hb5.cell (p := ⟨wc.heap.size, 2, none⟩) (by simp)).trans (by simp [go_sem])
  have x3 : w5.cell? ⟨wc.heap.size, 3, none⟩ = some (vs y.num) := (hb5.cell (p := ⟨wc.heap.size, 3, none⟩) (by simp)).trans (by simp [go_sem])
  have x4 : w5.cell? ⟨wc.heap.size, 4, none⟩ = some (vs y.no) := (hb5.cell (p := ⟨wc.heap.size, 4, none⟩) (by simp)).trans (by simp [go_sem])
  have x5 : w5.cell? ⟨wc.heap.size, 5, none⟩ = some (vs y.so) := (hb5.cell (p := ⟨wc.heap.size, 5, none⟩) (by simp)).trans (by simp [go_sem])
  have x6 : w5.cell? ⟨wc.heap.size, 6, none⟩ = some (.bool y.gone) := (hb5.cell (p := ⟨wc.heap.size, 6, none⟩) (by simp)).trans (by simp [go_sem])
  have xf : w5.frozen? ⟨wc.heap.size, 4, none⟩ = false := (hb5.frozen (p := ⟨wc.heap.size, 4, none⟩) (by simp)).trans (by simp [go_sem])
  have xl : wc.heap.size < w5.heap.size := World.block_lt_of_cell? _ _ x0
  have g5 : g < w5.heap.size := by have := hbx.size; omega
  have y45 : w.heap.size + 1 + 1 < w5.heap.size := World.block_lt_of_cell? _ _ fR
  have b85 : b8 < w5.heap.size := World.block_lt_of_cell? _ _ f8
  have n1 : ¬ b8 = wc.heap.size := by omega
  have n2 : ¬ wc.heap.size = b8 := by omega
  clear hb5 hbx HH HB3 R3 RF3 hc8
  have eg : Hid ((w5.setCell ⟨wc.heap.size, 4, none⟩ (vs N)).heap[g]? = some (.cells (flat l ++ rest).toArray 27 (0, 0))) := Lib.hid ((Below.heap_setCell _ _ _ _ (by show g ≠ wc.heap.size; omega)).trans HH5.out)
  have eb : Hid (Below w.heap.size w (w5.setCell ⟨wc.heap.size, 4, none⟩ (vs N))) := Lib.hid (HB5.out.setCell (show w.heap.size ≤ wc.heap.size by omega) _)
  have e8 : Hid ((w5.setCell ⟨wc.heap.size, 4, none⟩ (vs N)).cell? ⟨b8, 0, none⟩ = some (.slice (some ⟨g, 0, none⟩) l.length cap)) := Lib.hid ((World.cell?_of_block (a := ⟨b8, 0, none⟩) (Below.heap_setCell _ _ _ _ (by show b8 ≠ wc.heap.size; omega))).trans f8)
  have eR : Hid ((w5.setCell ⟨wc.heap.size, 4, none⟩ (vs N)).cell? ⟨w.heap.size + 1 + 1, 0, none⟩ = some (.slice none 0 0)) := Lib.hid ((World.cell?_of_block (a := ⟨w.heap.size + 1 + 1, 0, none⟩) (Below.heap_setCell _ _ _ _ (by show w.heap.size + 1 + 1 ≠ wc.heap.size; omega))).trans fR)
  have eF : Hid ((w5.setCell ⟨wc.heap.size, 4, none⟩ (vs N)).frozen? ⟨w.heap.size + 1 + 1, 0, none⟩ = false) := Lib.hid ((World.frozen?_setCell ..).trans fF)
  go_wp2_with (refine wpList_store_row rfl 27 (.tmp 128) (.tmp 127) rfl g (k * 7) (Item.cells { y with no := N }) (flat l ++ rest) 27 (by first | rfl | (simp [Act.eval, Act.put]; done)) (by first | rfl | (simp [Act.eval, Act.put]; done)) eg.out hfit size7 (cells_one { y with no := N }) ?_; generalize hWs : World.setRow _ g _ = Ws; have hWb : Below w.heap.size w Ws := (by rw [← hWs]; exact below_setRow eb.out (by have := HG.out; omega) _); have e1 : Ws.cell? ⟨b8, 0, none⟩ = some (.slice (some ⟨g, 0, none⟩) l.length cap) := (by rw [← hWs, cell_setRow_other _ _ _ _ hgne]; exact e8.out); have e2 : Ws.cell? ⟨w.heap.size + 1 + 1, 0, none⟩ = some (.slice none 0 0) := (by rw [← hWs, cell_setRow_other _ _ _ _ (by have := HG.out; show w.heap.size + 1 + 1 ≠ g; omega)]; exact eR.out); have e3 : Ws.frozen? ⟨w.heap.size + 1 + 1, 0, none⟩ = false := (by rw [← hWs]; exact fz_setRow eF.out (by have := HG.out; show w.heap.size + 1 + 1 ≠ g; omega)); have e4 : Ws.heap[g]? = some (.cells (flat (l.set k { y with no := N }) ++ rest).toArray 27 (0, 0)) := (by rw [← hWs, setRow_heap _ _ _ _ _ _ eg.out, flat_set l rest k _ hkl]); have e5 : w.heap.size + 1 + 1 < Ws.heap.size := World.block_lt_of_cell? _ _ e2; clear hWs)
  refine bodyPost_ret (v := .tuple #[.agg #[.slice (some ⟨g, 0, none⟩) l.length cap], .int .i64 0]) (by simp [results, Tryz.results38, go_sem, e2, e3, e5]) rfl ⟨_, rfl, ⟨some ⟨g, 0, none⟩, cap, by simp, RdI.of_row (cur := flat (l.set k { y with no := N }) ++ rest) (rest := rest) (t := 27) ((Below.heap_setCell _ _ _ _ (by have := HG.out; show g ≠ w.heap.size + 1 + 1; omega)).trans e4) rfl, by simpa using hlc1, fun b o hA => by cases hA; have := HG.out; have := HB2.out.size; omega⟩, ?_⟩
  exact hWb.setCell (show w.heap.size ≤ w.heap.size + 1 + 1 by omega) _
theorem rap_2so (l : List Item) (A : Option Addr) (c : Nat) (p : Patch) (w : World) (hr : RdI w A l) (hl : l.length ≤ 100000) (hlc : l.length ≤ c) (hsh : ∀ x ∈ l, x.Short) (hps : p.item.Short) (hpn : p.num.length ≤ maxLen) (hfr : p.fr.length ≤ 1000000) (htt : p.to.length ≤ 1000000) (he : (applyF l p).2 = 0) (hk : p.kind = 2) (k : Nat) (y : Item) (hfi : findI l p.id = k) (hy : l[k]? = some y) (hla : p.lang = 2) (hno : y.no.length ≤ 400) (hso : y.so.length ≤ 400) (ri : Nat) (hri : onceAt y.so p.fr = ri) (hro : ri + p.fr.length ≤ y.so.length) (N : Str) (hN : N = swap y.so p.fr p.to ri) (hres : (applyF l p).1 = l.set k { y with so := N }) : RApplies l A c p w := by
 unfold RApplies
 rw [hres, he]
 clear hres
 have kb1 : (p.kind == 1) = false := by simp [hk]
 have kb2 : (p.kind == 2) = true := by simp [hk]
 have kb3 : (p.kind == 3) = false := by simp [hk]
 have kb4 : (p.kind == 4) = false := by simp [hk]
 have kb5 : (p.kind == 5) = false := by simp [hk]
 have kb6 : (p.kind == 6) = false := by simp [hk]
 have kb7 : (p.kind == 7) = false := by simp [hk]
 have la1 : (p.lang == 1) = false := by simp [hla]
 have HRI := Lib.hid hri; clear hri
 have HN := Lib.hid hN; clear hN
 have hkl : k < l.length := (List.getElem?_eq_some_iff.1 hy).1
 have hi0 : (0 : Int) ≤ k := by omega
 have hi1 : (k : Int) < l.length := by omega
 have hne : l ≠ [] := by rintro rfl; simp at hkl
 obtain ⟨b1, o1, hA, hbs1, -⟩ := hr.item hy
 subst hA
 have HFI := Lib.hid hfi; clear hfi
 have HY := Lib.hid hy; clear hy
 have HNE := Lib.hid hne; clear hne
 clear hk hla
 have hb0 := (((Below.refl w.heap.size w).alloc (Nat.le_refl _) (.cells #[.slice (some ⟨b1, o1, none⟩) l.length c] 24)).alloc (by simp) (.cells (patCs p) 29)).alloc (by simp; omega) (.cells #[.slice none 0 0] 24)
 have HB0 := Lib.hid hb0; clear hb0
 have HR := Lib.hid hr; clear hr
 have HE := Lib.hid he; clear he
 have K20 : (((w.alloc (.cells #[.slice (some ⟨b1, o1, none⟩) l.length c] 24)).alloc (.cells (patCs p) 29)).alloc (.cells #[.slice none 0 0] 24)).cell? ⟨w.heap.size, 0, none⟩ = some (.slice (some ⟨b1, o1, none⟩) l.length c) := by simp [go_sem]
 have P30 : (((w.alloc (.cells #[.slice (some ⟨b1, o1, none⟩) l.length c] 24)).alloc (.cells (patCs p) 29)).alloc (.cells #[.slice none 0 0] 24)).blk (w.heap.size + 1) = some (.cells (patCs p) 29 (0, 0)) := by simp [go_sem]
 have R0 : (((w.alloc (.cells #[.slice (some ⟨b1, o1, none⟩) l.length c] 24)).alloc (.cells (patCs p) 29)).alloc (.cells #[.slice none 0 0] 24)).cell? ⟨w.heap.size + 1 + 1, 0, none⟩ = some (.slice none 0 0) := by simp [go_sem]
 have RF0 : (((w.alloc (.cells #[.slice (some ⟨b1, o1, none⟩) l.length c] 24)).alloc (.cells (patCs p) 29)).alloc (.cells #[.slice none 0 0] 24)).frozen? ⟨w.heap.size + 1 + 1, 0, none⟩ = false := by simp [go_sem]
 have z0 : w.heap.size + 1 + 1 < (((w.alloc (.cells #[.slice (some ⟨b1, o1, none⟩) l.length c] 24)).alloc (.cells (patCs p) 29)).alloc (.cells #[.slice none 0 0] 24)).heap.size := by simp
 have hsz0 : (((w.alloc (.cells #[.slice (some ⟨b1, o1, none⟩) l.length c] 24)).alloc (.cells (patCs p) 29)).alloc (.cells #[.slice none 0 0] 24)).heap.size = w.heap.size + 1 + 1 + 1 := by simp
 have HSZ0 := Lib.hid hsz0; clear hsz0
 go_enter Tryz.func38, Tryz.ntmps38
 go_wp2_with fail
 refine (rfail_any l _ c p _ (HR.out.below HB0.out) (by omega) hsh hps hpn hfr htt).mono ?_
 rintro e w1 ⟨rfl, hb1⟩
 rw [HE.out]
 have K21 := keepw hb1 K20
 have P31 := rkeepk hb1 P30
 have R1 := keepw hb1 R0
 have RF1 := (hb1.frozen (p := ⟨w.heap.size + 1 + 1, 0, none⟩) z0).trans RF0
 have HB1 := Lib.hid (HB0.out.trans (hb1.mono HB0.out.size))
 have y21 : w.heap.size < w1.heap.size := World.block_lt_of_cell? _ _ K21
 have y31 : w.heap.size + 1 < w1.heap.size := lt_of_heap P31
 have y41 : w.heap.size + 1 + 1 < w1.heap.size := World.block_lt_of_cell? _ _ R1
 have HR1 := Lib.hid (HR.out.below HB1.out)
 clear hb1 K20 P30 R0 RF0 z0
 have c0 : w1.cell? ⟨w.heap.size + 1, 0, none⟩ = some (.int .i64 p.kind) := cell_of_blk P31 rfl
 have c1 : w1.cell? ⟨w.heap.size + 1, 1, none⟩ = some (vs p.id) := cell_of_blk P31 rfl
 go_wp2_with fail
 refine (rfind_at HFI.out _ _ _ HR1.out (le_maxLen (by omega))).mono ?_
 rintro e w2 ⟨rfl, hb2⟩
 have K22 := keepw hb2 K21
 have P32 := rkeepk hb2 P31
 have R2 := keepw hb2 R1
 have RF2 := (hb2.frozen (p := ⟨w.heap.size + 1 + 1, 0, none⟩) y41).trans RF1
 have HB2 := Lib.hid (HB1.out.trans (hb2.mono HB1.out.size))
 have y42 : w.heap.size + 1 + 1 < w2.heap.size := World.block_lt_of_cell? _ _ R2
 have y22 : w.heap.size < w2.heap.size := by omega
 have y32 : w.heap.size + 1 < w2.heap.size := by omega
 have HR2 := Lib.hid (HR.out.below HB2.out)
 clear hb2 K21 P31 R1 RF1 HB1 y21 y31 y41 HR1 c0 c1
 have p0 : w2.cell? ⟨w.heap.size + 1, 0, none⟩ = some (.int .i64 p.kind) := cell_of_blk P32 rfl
 have p12 : w2.cell? ⟨w.heap.size + 1, 12, none⟩ = some (.int .i64 p.lang) := cell_of_blk P32 rfl
 have p13 : w2.cell? ⟨w.heap.size + 1, 13, none⟩ = some (vs p.fr) := cell_of_blk P32 rfl
 have p14 : w2.cell? ⟨w.heap.size + 1, 14, none⟩ = some (vs p.to) := cell_of_blk P32 rfl
 obtain ⟨b9, o9, hA9, hbs9, c0, c1, c2, c3, c4, c5, c6⟩ := HR2.out.item HY.out
 cases hA9
 go_upto_region 7 with (fail)
 go_cut [8] (fun v8 wc => ∃ (g cap : Nat) (rest : List Value), v8 = .pointer (some ⟨wc.heap.size - 1, 0, none⟩) ∧ wc.cell? ⟨wc.heap.size - 1, 0, none⟩ = some (.slice (some ⟨g, 0, none⟩) l.length cap) ∧ w2.heap.size ≤ g ∧ g < wc.heap.size - 1 ∧ wc.heap[g]? = some (.cells (flat l ++ rest).toArray 27 (0, 0)) ∧ l.length ≤ cap ∧ cap ≤ maxLen ∧ (flat l ++ rest).length = cap * 7 ∧ Below w2.heap.size w2 wc)
 case first =>
  go_wp2_with (at_builtin; refine wpList_append_items rfl (.tmp 36) (.tmp 38) rfl rfl w2.heap.size (.slice (some ⟨w2.heap.size, 0, none⟩) 0 0) [] _ l _ _ rfl rfl rfl (made_empty w2) (HR2.out.below ((Below.refl _ _).alloc (Nat.le_refl _) _)) (by simp; omega) (by simp) ?_; intro v1 u1 hown1 hgr1; have hB1 : Below w2.heap.size w2 u1 := ((Below.refl _ _).alloc (Nat.le_refl _) _).grown hgr1 (by simp) (by simp [Value.ownBlock]); rw [List.nil_append] at hown1; obtain ⟨g, cap, rest, rfl, hg, hglt, hh, hlc1, hcm, hs⟩ := hown1.row HNE.out)
  go_meet
  case rel => exact ⟨g, cap, rest, by simp, by simp [go_sem], hg, by simpa using hglt, (Below.heap_alloc _ _ _ hglt).trans hh, hlc1, hcm, hs, hB1.alloc hB1.size _⟩
 case' rest =>
  obtain ⟨g, cap, rest, rfl, hc8, hg, hg2, hh, hlc1, hcm, hs, hbw⟩ := hcut
  obtain ⟨b8, hb8⟩ : ∃ b, b = wc.heap.size - 1 := ⟨_, rfl⟩
  rw [← hb8] at hc8 hg2 ⊢
  have hb8lt : b8 < wc.heap.size := World.block_lt_of_cell? _ _ hc8
  have hgne : ¬ b8 = g := by omega
  have hgne2 : ¬ g = b8 := by omega
  have hglt : g < wc.heap.size := by omega
  have R3 := keepw hbw R2
  have RF3 := (hbw.frozen (p := ⟨w.heap.size + 1 + 1, 0, none⟩) y42).trans RF2
  have K23 := keepw hbw K22
  have r0 := keepw hbw p0
  have r12 := keepw hbw p12
  have r13 := keepw hbw p13
  have r14 := keepw hbw p14
  have HB3 := Lib.hid (HB2.out.trans (hbw.mono HB2.out.size))
  have d0 := keepw hbw c0
  have d1 := keepw hbw c1
  have d2 := keepw hbw c2
  have d3 := keepw hbw c3
  have d4 := keepw hbw c4
  have d5 := keepw hbw c5
  have d6 := keepw hbw c6
  have y43 : w.heap.size + 1 + 1 < wc.heap.size := World.block_lt_of_cell? _ _ R3
  have y23 : w.heap.size < wc.heap.size := by omega
  have y33 : w.heap.size + 1 < wc.heap.size := by omega
  have hb1c : b1 < wc.heap.size := World.block_lt_of_cell? _ _ d0
  have hbig : b8 < wc.heap.size + 1 := by omega
  have hfit : k * 7 + 7 ≤ (flat l ++ rest).length := by rw [hs]; omega
  have hkc : (k : Int) < cap := by omega
  have HH := Lib.hid hh
  have HG := Lib.hid hg
  clear hbw c0 c1 c2 c3 c4 c5 c6 R2 RF2 K22 P32 hh hg hb8
  go_wp2_with fail
  refine (rreplaced_any y.so p.fr p.to ri _ (by omega) (by omega) (by omega) HRI.out hro).mono ?_
  rintro e w5 ⟨rfl, hb5⟩
  rw [← HN.out]
  have hbx : Below wc.heap.size wc w5 := ((Below.refl _ _).alloc (Nat.le_refl _) _).trans (hb5.mono (by simp))
  have f8 := keepw hbx hc8
  have fR := keepw hbx R3
  have fF := (hbx.frozen (p := ⟨w.heap.size + 1 + 1, 0, none⟩) y43).trans RF3
  have HH5 := Lib.hid ((hbx.block g hglt).trans HH.out)
  have HB5 := Lib.hid (HB3.out.trans (hbx.mono HB3.out.size))
  have x0 : w5.cell? ⟨wc.heap.size, 0, none⟩ = some (.int .i64 y.kind) := (hb5.cell (p := ⟨wc.heap.size, 0, none⟩) (by simp)).trans (by simp [go_sem])
  have x1 : w5.cell? ⟨wc.heap.size, 1, none⟩ = some (vs y.id) := (hb5.cell (p := ⟨wc.heap.size, 1, none⟩) (by simp)).trans (by simp [go_sem])
  have x2 : w5.cell? ⟨wc.heap.size, 2, none⟩ = some (vs y.par) := (hb5.cell (p := ⟨wc.heap.size, 2, none⟩) (by simp)).trans (by simp [go_sem])
  have x3 : w5.cell? ⟨wc.heap.size, 3, none⟩ = some (vs y.num) := (hb5.cell (p := ⟨wc.heap.size, 3, none⟩) (by simp)).trans (by simp [go_sem])
  have x4 : w5.cell? ⟨wc.heap.size, 4, none⟩ = some (vs y.no) := (hb5.cell (p := ⟨wc.heap.size, 4, none⟩) (by simp)).trans (by simp [go_sem])
  have x5 : w5.cell? ⟨wc.heap.size, 5, none⟩ = some (vs y.so) := (hb5.cell (p := ⟨wc.heap.size, 5, none⟩) (by simp)).trans (by simp [go_sem])
  have x6 : w5.cell? ⟨wc.heap.size, 6, none⟩ = some (.bool y.gone) := (hb5.cell (p := ⟨wc.heap.size, 6, none⟩) (by simp)).trans (by simp [go_sem])
  have xf : w5.frozen? ⟨wc.heap.size, 5, none⟩ = false := (hb5.frozen (p := ⟨wc.heap.size, 5, none⟩) (by simp)).trans (by simp [go_sem])
  have xl : wc.heap.size < w5.heap.size := World.block_lt_of_cell? _ _ x0
  have g5 : g < w5.heap.size := by have := hbx.size; omega
  have y45 : w.heap.size + 1 + 1 < w5.heap.size := World.block_lt_of_cell? _ _ fR
  have b85 : b8 < w5.heap.size := World.block_lt_of_cell? _ _ f8
  have n1 : ¬ b8 = wc.heap.size := by omega
  have n2 : ¬ wc.heap.size = b8 := by omega
  clear hb5 hbx HH HB3 R3 RF3 hc8
  have eg : Hid ((w5.setCell ⟨wc.heap.size, 5, none⟩ (vs N)).heap[g]? = some (.cells (flat l ++ rest).toArray 27 (0, 0))) := Lib.hid ((Below.heap_setCell _ _ _ _ (by show g ≠ wc.heap.size; omega)).trans HH5.out)
  have eb : Hid (Below w.heap.size w (w5.setCell ⟨wc.heap.size, 5, none⟩ (vs N))) := Lib.hid (HB5.out.setCell (show w.heap.size ≤ wc.heap.size by omega) _)
  have e8 : Hid ((w5.setCell ⟨wc.heap.size, 5, none⟩ (vs N)).cell? ⟨b8, 0, none⟩ = some (.slice (some ⟨g, 0, none⟩) l.length cap)) := Lib.hid ((World.cell?_of_block (a := ⟨b8, 0, none⟩) (Below.heap_setCell _ _ _ _ (by show b8 ≠ wc.heap.size; omega))).trans f8)
  have eR : Hid ((w5.setCell ⟨wc.heap.size, 5, none⟩ (vs N)).cell? ⟨w.heap.size + 1 + 1, 0, none⟩ = some (.slice none 0 0)) := Lib.hid ((World.cell?_of_block (a := ⟨w.heap.size + 1 + 1, 0, none⟩) (Below.heap_setCell _ _ _ _ (by show w.heap.size + 1 + 1 ≠ wc.heap.size; omega))).trans fR)
  have eF : Hid ((w5.setCell ⟨wc.heap.size, 5, none⟩ (vs N)).frozen? ⟨w.heap.size + 1 + 1, 0, none⟩ = false) := Lib.hid ((World.frozen?_setCell ..).trans fF)
  go_wp2_with (refine wpList_store_row rfl 27 (.tmp 128) (.tmp 127) rfl g (k * 7) (Item.cells { y with so := N }) (flat l ++ rest) 27 (by first | rfl | (simp [Act.eval, Act.put]; done)) (by first | rfl | (simp [Act.eval, Act.put]; done)) eg.out hfit size7 (cells_one { y with so := N }) ?_; generalize hWs : World.setRow _ g _ = Ws; have hWb : Below w.heap.size w Ws := (by rw [← hWs]; exact below_setRow eb.out (by have := HG.out; omega) _); have e1 : Ws.cell? ⟨b8, 0, none⟩ = some (.slice (some ⟨g, 0, none⟩) l.length cap) := (by rw [← hWs, cell_setRow_other _ _ _ _ hgne]; exact e8.out); have e2 : Ws.cell? ⟨w.heap.size + 1 + 1, 0, none⟩ = some (.slice none 0 0) := (by rw [← hWs, cell_setRow_other _ _ _ _ (by have := HG.out; show w.heap.size + 1 + 1 ≠ g; omega)]; exact eR.out); have e3 : Ws.frozen? ⟨w.heap.size + 1 + 1, 0, none⟩ = false := (by rw [← hWs]; exact fz_setRow eF.out (by have := HG.out; show w.heap.size + 1 + 1 ≠ g; omega)); have e4 : Ws.heap[g]? = some (.cells (flat (l.set k { y with so := N }) ++ rest).toArray 27 (0, 0)) := (by rw [← hWs, setRow_heap _ _ _ _ _ _ eg.out, flat_set l rest k _ hkl]); have e5 : w.heap.size + 1 + 1 < Ws.heap.size := World.block_lt_of_cell? _ _ e2; clear hWs)
  refine bodyPost_ret (v := .tuple #[.agg #[.slice (some ⟨g, 0, none⟩) l.length cap], .int .i64 0]) (by simp [results, Tryz.results38, go_sem, e2, e3, e5]) rfl ⟨_, rfl, ⟨some ⟨g, 0, none⟩, cap, by simp, RdI.of_row (cur := flat (l.set k { y with so := N }) ++ rest) (rest := rest) (t := 27) ((Below.heap_setCell _ _ _ _ (by have := HG.out; show g ≠ w.heap.size + 1 + 1; omega)).trans e4) rfl, by simpa using hlc1, fun b o hA => by cases hA; have := HG.out; have := HB2.out.size; omega⟩, ?_⟩
  exact hWb.setCell (show w.heap.size ≤ w.heap.size + 1 + 1 by omega) _
end Go.Proofs.YtfolcjkednmkoaaGreat
