/- The reference's Apply: move, all that follows. The reference's Apply answers as the program's. The reference's All. -/
import Derived.Test.YtfolcjkednmkoaaGreatRApply4
import Derived.Test.YtfolcjkednmkoaaGreatJApply
import Derived.Test.YtfolcjkednmkoaaGreatAll
import Derived.Deep.RegionHeld3
import Derived.Deep.DeepCutAuto
set_option linter.unusedVariables false
set_option linter.unusedSimpArgs false
set_option maxRecDepth 20000
set_option maxHeartbeats 8000000
namespace Go.Proofs.YtfolcjkednmkoaaGreat
open Go.RowKit
theorem rap_4e (l : List Item) (A : Option Addr) (c : Nat) (p : Patch) (w : World) (hr : RdI w A l) (hl : l.length ≤ 100000) (hlc : l.length ≤ c) (hsh : ∀ x ∈ l, x.Short) (hps : p.item.Short) (hpn : p.num.length ≤ maxLen) (hfr : p.fr.length ≤ 1000000) (htt : p.to.length ≤ 1000000) (he : (applyF l p).2 = 0) (hk : p.kind = 4) (k : Nat) (y : Item) (hfi : findI l p.id = k) (hy : l[k]? = some y) (hyi : y.id = p.id) (e1 : Nat) (he1 : k + (1 + (belowL l p.id).length) = e1) (hel : e1 ≤ l.length) (r : List Item) (hblk : (l.drop k).take (e1 - k) = y :: r) (hok : PutOk (l.take k ++ l.drop e1) p.par p.aft) (hce : c = e1) (hres : (applyF l p).1 = putL (l.take k ++ l.drop e1) ({ y with par := p.par } :: r) p.par p.aft) : RApplies l A c p w := by
 unfold RApplies
 rw [hres, he]
 clear hres
 have kb1 : (p.kind == 1) = false := by simp [hk]
 have kb2 : (p.kind == 2) = false := by simp [hk]
 have kb3 : (p.kind == 3) = false := by simp [hk]
 have kb4 : (p.kind == 4) = true := by simp [hk]
 have kb5 : (p.kind == 5) = false := by simp [hk]
 have kb6 : (p.kind == 6) = false := by simp [hk]
 have kb7 : (p.kind == 7) = false := by simp [hk]
 have HBL := Lib.hid hblk
 have HOK := Lib.hid hok; clear hok
 have hrl : e1 - k = r.length + 1 := by have := congrArg List.length hblk; simp at this; omega
 have hek : k < e1 := by omega
 clear hblk
 obtain ⟨nb, hnb⟩ : ∃ n, (belowL l y.id).length = n := ⟨_, rfl⟩
 have HE1 : Hid ((k : Int) + (1 + (nb : Int)) = (e1 : Int)) := Lib.hid (by rw [← hnb, hyi, ← he1]; push_cast; rfl)
 have HNB := Lib.hid hnb; clear hnb
 obtain ⟨L, hL⟩ : ∃ L, l.take k ++ l.drop e1 = L := ⟨_, rfl⟩
 have hLl : Hid (L.length = k + (l.length - e1)) := Lib.hid (by rw [← hL]; simp; omega)
 rw [hL]
 have HL := Lib.hid hL; clear hL
 have hq0 : (0 : Int) ≤ e1 := by omega
 have hq1 : (k : Int) ≤ e1 := by omega
 have hq2 : (e1 : Int) ≤ c := by omega
 have hq3 : (e1 : Int) ≤ l.length := by omega
 have hq4 : (k : Int) ≤ c := by omega
 have hq5 : ¬ c = k := by omega
 clear hyi he1
 obtain rfl := hce
 have hkl : k < l.length := (List.getElem?_eq_some_iff.1 hy).1
 have hi0 : (0 : Int) ≤ k := by omega
 have hi1 : (k : Int) < l.length := by omega
 have hne : l ≠ [] := by rintro rfl; simp at hkl
 obtain ⟨b1, o1, hA, hbs1, -⟩ := hr.item hy
 subst hA
 have HFI := Lib.hid hfi; clear hfi
 have HY := Lib.hid hy; clear hy
 have HNE := Lib.hid hne; clear hne
 clear hk 
 have hb0 := (((Below.refl w.heap.size w).alloc (Nat.le_refl _) (.cells #[.slice (some ⟨b1, o1, none⟩) l.length c] 24)).alloc (by simp) (.cells (patCs p) 29)).alloc (by simp; omega) (.cells #[.slice none 0 0] 24)
 have HB0 := Lib.hid hb0; clear hb0
 have HR := Lib.hid hr; clear hr
 have HE := Lib.hid he; clear he
 have K20 : (((w.alloc (.cells #[.slice (some ⟨b1, o1, none⟩) l.length c] 24)).alloc (.cells (patCs p) 29)).alloc (.cells #[.slice none 0 0] 24)).cell? ⟨w.heap.size, 0, none⟩ = some (.slice (some ⟨b1, o1, none⟩) l.length c) := by simp [go_sem]
 have P30 : (((w.alloc (.cells #[.slice (some ⟨b1, o1, none⟩) l.length c] 24)).alloc (.cells (patCs p) 29)).alloc (.cells #[.slice none 0 0] 24)).blk (w.heap.size + 1) = some (.cells (patCs p) 29 (0, 0)) := by simp [go_sem]
 have R0 : (((w.alloc (.cells #[.slice (some ⟨b1, o1, none⟩) l.length c] 24)).alloc (.cells (patCs p) 29)).alloc (.cells #[.slice none 0 0] 24)).cell? ⟨w.heap.size + 1 + 1, 0, none⟩ = some (.slice none 0 0) := by simp [go_sem]
 have RF0 : (((w.alloc (.cells #[.slice (some ⟨b1, o1, none⟩) l.length c] 24)).alloc (.cells (patCs p) 29)).alloc (.cells #[.slice none 0 0] 24)).frozen? ⟨w.heap.size + 1 + 1, 0, none⟩ = false := by simp [go_sem]
 have z0 : w.heap.size + 1 + 1 < (((w.alloc (.cells #[.slice (some ⟨b1, o1, none⟩) l.length c] 24)).alloc (.cells (patCs p) 29)).alloc (.cells #[.slice none 0 0] 24)).heap.size := by simp
 have hsz0 : (((w.alloc (.cells #[.slice (some ⟨b1, o1, none⟩) l.length c] 24)).alloc (.cells (patCs p) 29)).alloc (.cells #[.slice none 0 0] 24)).heap.size = w.heap.size + 1 + 1 + 1 := by simp
 have HSZ0 := Lib.hid hsz0; clear hsz0
 go_enter Tryz.func38, Tryz.ntmps38
 go_wp2_with fail
 refine (rfail_any l _ c p _ (HR.out.below HB0.out) (by omega) hsh hps hpn hfr htt).mono ?_
 rintro e w1 ⟨rfl, hb1⟩
 rw [HE.out]
 have K21 := keepw hb1 K20
 have P31 := rkeepk hb1 P30
 have R1 := keepw hb1 R0
 have RF1 := (hb1.frozen (p := ⟨w.heap.size + 1 + 1, 0, none⟩) z0).trans RF0
 have HB1 := Lib.hid (HB0.out.trans (hb1.mono HB0.out.size))
 have y21 : w.heap.size < w1.heap.size := World.block_lt_of_cell? _ _ K21
 have y31 : w.heap.size + 1 < w1.heap.size := lt_of_heap P31
 have y41 : w.heap.size + 1 + 1 < w1.heap.size := World.block_lt_of_cell? _ _ R1
 have HR1 := Lib.hid (HR.out.below HB1.out)
 clear hb1 K20 P30 R0 RF0 z0
 have c0 : w1.cell? ⟨w.heap.size + 1, 0, none⟩ = some (.int .i64 p.kind) := cell_of_blk P31 rfl
 have c1 : w1.cell? ⟨w.heap.size + 1, 1, none⟩ = some (vs p.id) := cell_of_blk P31 rfl
 go_wp2_with fail
 refine (rfind_at HFI.out _ _ _ HR1.out (le_maxLen (by omega))).mono ?_
 rintro e w2 ⟨rfl, hb2⟩
 have K22 := keepw hb2 K21
 have P32 := rkeepk hb2 P31
 have R2 := keepw hb2 R1
 have RF2 := (hb2.frozen (p := ⟨w.heap.size + 1 + 1, 0, none⟩) y41).trans RF1
 have HB2 := Lib.hid (HB1.out.trans (hb2.mono HB1.out.size))
 have y42 : w.heap.size + 1 + 1 < w2.heap.size := World.block_lt_of_cell? _ _ R2
 have y22 : w.heap.size < w2.heap.size := by omega
 have y32 : w.heap.size + 1 < w2.heap.size := by omega
 have HR2 := Lib.hid (HR.out.below HB2.out)
 clear hb2 K21 P31 R1 RF1 HB1 y21 y31 y41 HR1 c0 c1
 have p0 : w2.cell? ⟨w.heap.size + 1, 0, none⟩ = some (.int .i64 p.kind) := cell_of_blk P32 rfl
 have p2 : w2.cell? ⟨w.heap.size + 1, 2, none⟩ = some (vs p.par) := cell_of_blk P32 rfl
 have p3 : w2.cell? ⟨w.heap.size + 1, 3, none⟩ = some (vs p.aft) := cell_of_blk P32 rfl
 obtain ⟨b9, o9, hA9, hbs9, c0, c1, c2, c3, c4, c5, c6⟩ := HR2.out.item HY.out
 cases hA9
 go_upto_region 7 with (fail)
 go_cut [8] (fun v8 wc => ∃ (g cap : Nat) (rest : List Value), v8 = .pointer (some ⟨wc.heap.size - 1, 0, none⟩) ∧ wc.cell? ⟨wc.heap.size - 1, 0, none⟩ = some (.slice (some ⟨g, 0, none⟩) l.length cap) ∧ w2.heap.size ≤ g ∧ g < wc.heap.size - 1 ∧ wc.heap[g]? = some (.cells (flat l ++ rest).toArray 27 (0, 0)) ∧ l.length ≤ cap ∧ cap ≤ maxLen ∧ (flat l ++ rest).length = cap * 7 ∧ Below w2.heap.size w2 wc)
 case first =>
  go_wp2_with (at_builtin; refine wpList_append_items rfl (.tmp 36) (.tmp 38) rfl rfl w2.heap.size (.slice (some ⟨w2.heap.size, 0, none⟩) 0 0) [] _ l _ _ rfl rfl rfl (made_empty w2) (HR2.out.below ((Below.refl _ _).alloc (Nat.le_refl _) _)) (by simp; omega) (by simp) ?_; intro v1 u1 hown1 hgr1; have hB1 : Below w2.heap.size w2 u1 := ((Below.refl _ _).alloc (Nat.le_refl _) _).grown hgr1 (by simp) (by simp [Value.ownBlock]); rw [List.nil_append] at hown1; obtain ⟨g, cap, rest, rfl, hg, hglt, hh, hlc1, hcm, hs⟩ := hown1.row HNE.out)
  go_meet
  case rel => exact ⟨g, cap, rest, by simp, by simp [go_sem], hg, by simpa using hglt, (Below.heap_alloc _ _ _ hglt).trans hh, hlc1, hcm, hs, hB1.alloc hB1.size _⟩
 case' rest =>
  obtain ⟨g, cap, rest, rfl, hc8, hg, hg2, hh, hlc1, hcm, hs, hbw⟩ := hcut
  obtain ⟨b8, hb8⟩ : ∃ b, b = wc.heap.size - 1 := ⟨_, rfl⟩
  rw [← hb8] at hc8 hg2 ⊢
  have hb8lt : b8 < wc.heap.size := World.block_lt_of_cell? _ _ hc8
  have hgne : ¬ b8 = g := by omega
  have hgne2 : ¬ g = b8 := by omega
  have hglt : g < wc.heap.size := by omega
  have R3 := keepw hbw R2
  have RF3 := (hbw.frozen (p := ⟨w.heap.size + 1 + 1, 0, none⟩) y42).trans RF2
  have K23 := keepw hbw K22
  have r0 := keepw hbw p0
  have r2 := keepw hbw p2
  have r3 := keepw hbw p3
  have HB3 := Lib.hid (HB2.out.trans (hbw.mono HB2.out.size))
  have d0 := keepw hbw c0
  have d1 := keepw hbw c1
  have d2 := keepw hbw c2
  have d3 := keepw hbw c3
  have d4 := keepw hbw c4
  have d5 := keepw hbw c5
  have d6 := keepw hbw c6
  have y43 : w.heap.size + 1 + 1 < wc.heap.size := World.block_lt_of_cell? _ _ R3
  have y23 : w.heap.size < wc.heap.size := by omega
  have y33 : w.heap.size + 1 < wc.heap.size := by omega
  have hb1c : b1 < wc.heap.size := World.block_lt_of_cell? _ _ d0
  have hbig : b8 < wc.heap.size + 1 := by omega
  have hfit : k * 7 + 7 ≤ (flat l ++ rest).length := by rw [hs]; omega
  have hkc : (k : Int) < cap := by omega
  have HH := Lib.hid hh
  have HG := Lib.hid hg
  clear hbw c0 c1 c2 c3 c4 c5 c6 R2 RF2 K22 P32 hh hg hb8
  have HRc := Lib.hid (HR.out.below HB3.out)
  go_wp2_with fail
  refine (rend_at HNB.out _ c k _ (HRc.out.below ((Below.refl _ _).alloc (Nat.le_refl _) _)) (by omega) hsh HY.out).mono ?_
  rintro e w5 ⟨rfl, hbe⟩
  rw [HE1.out]
  have hb5 : Below wc.heap.size wc w5 := ((Below.refl _ _).alloc (Nat.le_refl _) _).trans (hbe.mono (by simp))
  clear hbe
  have R5 := keepw hb5 R3
  have RF5 := (hb5.frozen (p := ⟨w.heap.size + 1 + 1, 0, none⟩) y43).trans RF3
  have K25 := keepw hb5 K23
  have s2 := keepw hb5 r2
  have s3 := keepw hb5 r3
  have HB5 := Lib.hid (HB3.out.trans (hb5.mono HB3.out.size))
  have y45 : w.heap.size + 1 + 1 < w5.heap.size := World.block_lt_of_cell? _ _ R5
  have HR5 := Lib.hid (HR.out.below HB5.out)
  clear hb5 R3 RF3 K23 r0 r2 r3 HB3 HRc HG HH d0 d1 d2 d3 d4 d5 d6 hc8 y43 y23 y33 hglt hbig hfit hkc hgne hgne2 hg2 hlc1 hcm hs
  have y25 : w.heap.size < w5.heap.size := by omega
  have y35 : w.heap.size + 1 < w5.heap.size := by omega
  go_wp2_with (at_builtin; refine wpList_append_items rfl (.tmp 61) (.tmp 66) rfl rfl w5.heap.size (.slice (some ⟨w5.heap.size, 0, none⟩) 0 0) [] _ ((l.drop k).take (c - k)) _ _ rfl rfl (by first | (simp; done) | (simp; omega)) (made_empty w5) (((HR5.out.drop k).take (c - k)).below ((Below.refl _ _).alloc (Nat.le_refl _) _)) (by first | (simp; done) | (simp; omega)) (by simp) ?_; intro v1 u1 hown1 hgr1; have hB1 : Below w5.heap.size w5 u1 := ((Below.refl _ _).alloc (Nat.le_refl _) _).grown hgr1 (by simp) (by simp [Value.ownBlock]); rw [List.nil_append, HBL.out] at hown1; obtain ⟨gm, capm, restm, rfl, hgm, hgmlt, hhm, hlcm, hcmm, hsm⟩ := hown1.row (by simp); have HHM := Lib.hid hhm; have R6a := keepw hB1 R5; have RF6a := (hB1.frozen (p := ⟨w.heap.size + 1 + 1, 0, none⟩) y45).trans RF5; have K26a := keepw hB1 K25; have s2a := keepw hB1 s2; have s3a := keepw hB1 s3; have y25a : w.heap.size < u1.heap.size := (World.block_lt_of_cell? _ _ K26a); have y35a : w.heap.size + 1 < u1.heap.size := (World.block_lt_of_cell? _ _ s2a); have y45a : w.heap.size + 1 + 1 < u1.heap.size := (World.block_lt_of_cell? _ _ R6a); have m2 : u1.cell? ⟨gm, 2, none⟩ = some (vs y.par) := (cell_of_blk (o := 2) hhm (by simp [flat_cons, Item.cells])); have m2f : u1.frozen? ⟨gm, 2, none⟩ = false := (frozen_of_blk hhm); clear hhm)
  generalize hW6 : World.setCell u1 ⟨gm, 2, none⟩ (vs p.par) = W6
  have hB6 : Below w5.heap.size w5 W6 := (by rw [← hW6]; exact hB1.setCell (show w5.heap.size ≤ gm from hgm) _)
  have HHM6 : Hid (W6.heap[gm]? = some (.cells (flat ({ y with par := p.par } :: r) ++ restm).toArray 27 (0, 0))) := Lib.hid (by rw [← hW6, row_setCell HHM.out, set_par])
  clear hW6 m2 m2f R6a RF6a K26a s2a s3a y25a y35a y45a HHM hgr1 hown1 hB1
  have R6 := keepw hB6 R5
  have RF6 := (hB6.frozen (p := ⟨w.heap.size + 1 + 1, 0, none⟩) y45).trans RF5
  have K26 := keepw hB6 K25
  have q2 := keepw hB6 s2
  have q3 := keepw hB6 s3
  have HB6 := Lib.hid (HB5.out.trans (hB6.mono HB5.out.size))
  have HR6 := Lib.hid (HR.out.below HB6.out)
  clear R5 RF5 K25 s2 s3 y25 y35 y45 hB6 HB5 HR5
  have y26 : w.heap.size < W6.heap.size := World.block_lt_of_cell? _ _ K26
  have y36 : w.heap.size + 1 < W6.heap.size := World.block_lt_of_cell? _ _ q2
  have y46 : w.heap.size + 1 + 1 < W6.heap.size := World.block_lt_of_cell? _ _ R6
  have nW1 : ¬ W6.heap.size = w.heap.size := by omega
  have nW2 : ¬ w.heap.size = W6.heap.size := by omega
  have nW3 : ¬ W6.heap.size + 1 = w.heap.size := by omega
  have nW4 : ¬ w.heap.size = W6.heap.size + 1 := by omega
  have hrlen : Hid (L.length + (r.length + 1) ≤ 1000000) := Lib.hid (by have := hLl.out; omega)
  have HRT : ∀ W, Below W6.heap.size W6 W → RdI W (some ⟨b1, o1, none⟩) (l.take k) := fun W hW => (HR6.out.take k).below hW
  have HRD : ∀ W, Below W6.heap.size W6 W → RdI W (some ⟨b1, o1, none⟩) (l.drop c) := fun W hW => by rw [List.drop_of_length_le (by omega)]; exact Sl.nil
  go_cut [12] (fun v12 wd => ∃ (b c3 : Nat) (A3 : Option Addr), v12 = .pointer (some ⟨b, 0, none⟩) ∧ wd.cell? ⟨b, 0, none⟩ = some (.slice A3 L.length c3) ∧ RdI wd A3 L ∧ L.length ≤ c3 ∧ Below W6.heap.size W6 wd)
  case first =>
   go_region_held3 (fun X => X.cell? ⟨w.heap.size, 0, none⟩ = some (.slice (some ⟨b1, o1, none⟩) l.length c)) (first | assumption | go_keep | (simp [go_sem, *]; done))
    (first
      | (refine step_append_items rfl (.tmp 73) (.tmp 77) rfl rfl W6.heap.size (.slice (some ⟨W6.heap.size, 0, none⟩) 0 0) [] _ (l.take k) _ _ rfl rfl (by simp; omega) (OwnI.below (mE W6 _ rfl) (by repeat (first | exact Below.refl _ _ | exact hB1 | apply Below.drew | refine bel_alloc ?_ (by first | exact Nat.le_refl _ | omega) _))) (HRT _ (by repeat (first | exact Below.refl _ _ | exact hB1 | apply Below.drew | refine bel_alloc ?_ (by first | exact Nat.le_refl _ | omega) _))) (by simp; omega) (Below.size (w := W6) (by repeat (first | exact Below.refl _ _ | exact hB1 | apply Below.drew | refine bel_alloc ?_ (by first | exact Nat.le_refl _ | omega) _))) ?_; intro v1 u1 hown1 hgr1; have hbx1 := blk_grown hgr1 (hC W6 _ _) (own_ne (by omega)); have hB1 := g1 (by repeat (first | exact Below.refl _ _ | exact hB1 | apply Below.drew | refine bel_alloc ?_ (by first | exact Nat.le_refl _ | omega) _)) hgr1 rfl (Nat.le_refl _); rw [List.nil_append] at hown1; have h61 := keepw hB1 K26; have x1 : w.heap.size < u1.heap.size := (by have := hB1.size; omega); have x2 : ¬ u1.heap.size = w.heap.size := (by omega); have x3 : ¬ w.heap.size = u1.heap.size := (by omega))
      | (refine step_append_items rfl (.tmp 73) (.tmp 77) rfl rfl W6.heap.size (.slice (some ⟨W6.heap.size, 0, none⟩) 0 0) [] _ (l.take k) _ _ rfl rfl (by simp; omega) (OwnI.below (mE W6 _ rfl) (by repeat (first | exact Below.refl _ _ | exact hB1 | apply Below.drew | refine bel_alloc ?_ (by first | exact Nat.le_refl _ | omega) _))) (HRT _ (by repeat (first | exact Below.refl _ _ | exact hB1 | apply Below.drew | refine bel_alloc ?_ (by first | exact Nat.le_refl _ | omega) _))) (by simp; omega) (Below.size (w := W6) (by repeat (first | exact Below.refl _ _ | exact hB1 | apply Below.drew | refine bel_alloc ?_ (by first | exact Nat.le_refl _ | omega) _))) ?_; intro v1 u1 hown1 hgr1; have hB1 := g1 (by repeat (first | exact Below.refl _ _ | exact hB1 | apply Below.drew | refine bel_alloc ?_ (by first | exact Nat.le_refl _ | omega) _)) hgr1 rfl (Nat.le_refl _); rw [List.nil_append] at hown1; have h61 := keepw hB1 K26; have x1 : w.heap.size < u1.heap.size := (by have := hB1.size; omega); have x2 : ¬ u1.heap.size = w.heap.size := (by omega); have x3 : ¬ w.heap.size = u1.heap.size := (by omega))
      | (refine step_append_items rfl (.tmp 73) (.tmp 77) rfl rfl W6.heap.size (.slice (some ⟨W6.heap.size + 1, 0, none⟩) 0 0) [] _ (l.take k) _ _ rfl rfl (by simp; omega) (OwnI.mono (mE _ _ (by first | exact alloc_size _ _ | exact (drew_size _).trans (alloc_size _ _))) (Nat.le_succ _)) (HRT _ (by repeat (first | exact Below.refl _ _ | exact hB1 | apply Below.drew | refine bel_alloc ?_ (by first | exact Nat.le_refl _ | omega) _))) (by simp; omega) (Below.size (w := W6) (by repeat (first | exact Below.refl _ _ | exact hB1 | apply Below.drew | refine bel_alloc ?_ (by first | exact Nat.le_refl _ | omega) _))) ?_; intro v1 u1 hown1 hgr1; have hbx1 := blk_grown hgr1 (hD W6 _ _) (own_ne (by omega)); have hB1 := g1 (by repeat (first | exact Below.refl _ _ | exact hB1 | apply Below.drew | refine bel_alloc ?_ (by first | exact Nat.le_refl _ | omega) _)) hgr1 rfl (Nat.le_succ _); rw [List.nil_append] at hown1; have h61 := keepw hB1 K26; have x1 : w.heap.size < u1.heap.size := (by have := hB1.size; omega); have x2 : ¬ u1.heap.size = w.heap.size := (by omega); have x3 : ¬ w.heap.size = u1.heap.size := (by omega))
      | (with_reducible refine mark_at u1 ?_; refine step_append_items rfl (.tmp 78) (.tmp 82) rfl rfl W6.heap.size v1 (l.take k) _ (l.drop c) _ _ rfl rfl (by first | (simp; done) | (simp; omega)) hown1 (HRD _ hB1) (by simp; omega) hB1.size ?_; intro v2 u2 hown2 hgr2; have hbx2 := blk_grown hgr2 hbx1 (own_other hown1 hbx1); have hB2 := hB1.grown hgr2 hB1.size (own_base hown1); rw [HL.out] at hown2; obtain ⟨A3, c3, rfl, -, -, -⟩ := hown2.slice; have h62 := keepw hB2 K26; have x4 : w.heap.size < u2.heap.size := (by have := hB2.size; omega); have x5 : ¬ u2.heap.size = w.heap.size := (by omega); have x6 : ¬ w.heap.size = u2.heap.size := (by omega); have x7 := cell_of_blk (o := 0) hbx2 rfl; have x8 := frozen_of_blk (o := 0) hbx2; have x9 := blk_lt hbx2)
      | (with_reducible refine mark_at u1 ?_; refine step_append_items rfl (.tmp 78) (.tmp 82) rfl rfl W6.heap.size v1 (l.take k) _ (l.drop c) _ _ rfl rfl (by first | (simp; done) | (simp; omega)) hown1 (HRD _ hB1) (by simp; omega) hB1.size ?_; intro v2 u2 hown2 hgr2; have hB2 := hB1.grown hgr2 hB1.size (own_base hown1); rw [HL.out] at hown2; obtain ⟨A3, c3, rfl, -, -, -⟩ := hown2.slice; have h62 := keepw hB2 K26; have x4 : w.heap.size < u2.heap.size := (by have := hB2.size; omega); have x5 : ¬ u2.heap.size = w.heap.size := (by omega); have x6 : ¬ w.heap.size = u2.heap.size := (by omega))
      | (with_reducible refine mark_alloc (w := u1) ?_; refine step_second_alloc rfl (.tmp 78) (.tmp 82) rfl rfl v1 (l.take k) _ (l.drop c) _ _ rfl rfl (by first | (simp; done) | (simp; omega)) hown1 hB1 (HRD _ hB1) (by simp; omega) ?_; intro v2 u2 hown2 hbx2 hB2; rw [HL.out] at hown2; obtain ⟨A3, c3, rfl, -, -, -⟩ := hown2.slice; have h62 := keepw hB2 K26; have x4 : w.heap.size < u2.heap.size := (by have := hB2.size; omega); have x5 : ¬ u2.heap.size = w.heap.size := (by omega); have x6 : ¬ w.heap.size = u2.heap.size := (by omega); have x7 := cell_of_blk (o := 0) hbx2 rfl; have x8 := frozen_of_blk (o := 0) hbx2; have x9 := blk_lt hbx2))
   all_goals
    go_wp2_with fail
    go_meet
    case rel =>
     first
      | exact ⟨_, c3, A3, rfl, (fin_box hown2 hbx2).2.1, (fin_box hown2 hbx2).1, (fin_box (v := .slice none 0 0) hown2 hbx2).2.2.2, hB2.setCell (by first | exact Nat.le_refl _ | exact hB1.size | (show W6.heap.size ≤ W6.heap.size + 1; omega)) _⟩
      | exact ⟨_, c3, A3, rfl, by simp [go_sem], (fin_new hown2 _).1, (fin_new hown2 (.cells #[] 0)).2, hB2.alloc hB2.size _⟩
  case' rest =>
   obtain ⟨b12, c12, A12, rfl, hc12, hr12, hlc12, hbw⟩ := hcut
   have R7 := keepw hbw R6
   have RF7 := (hbw.frozen (p := ⟨w.heap.size + 1 + 1, 0, none⟩) y46).trans RF6
   have s2 := keepw hbw q2
   have s3 := keepw hbw q3
   have HB7 := Lib.hid (HB6.out.trans (hbw.mono HB6.out.size))
   have HH7 := Lib.hid ((hbw.block gm (lt_of_heap HHM6.out)).trans HHM6.out)
   have y47 : w.heap.size + 1 + 1 < wc.heap.size := World.block_lt_of_cell? _ _ R7
   clear hbw R6 RF6 q2 q3 HB6 HHM6
   have HSL : ∀ x ∈ L, x.Short := by
    rw [← HL.out]
    intro x hx
    rcases List.mem_append.1 hx with h | h
    · exact hsh x (List.mem_of_mem_take h)
    · exact hsh x (List.mem_of_mem_drop h)
   go_wp2_with fail
   refine (rput_any L ({ y with par := p.par } :: r) A12 (some ⟨gm, 0, none⟩) c12 capm p.par p.aft _ hr12 (RdI.of_row (cur := flat ({ y with par := p.par } :: r) ++ restm) (rest := restm) (t := 27) HH7.out rfl) (by have := hrlen.out; simp; omega) hlc12 HSL (HL.out ▸ HOK.out)).mono ?_
   rintro e w8 ⟨v, rfl, ⟨A', c', rfl, hr', hlc', hA'⟩, hb8⟩
   have R8 := keepw hb8 R7
   have RF8 := (hb8.frozen (p := ⟨w.heap.size + 1 + 1, 0, none⟩) y47).trans RF7
   have y48 : w.heap.size + 1 + 1 < w8.heap.size := World.block_lt_of_cell? _ _ R8
   have HB8 := Lib.hid (HB7.out.trans (hb8.mono HB7.out.size))
   have hwc : w.heap.size + 3 ≤ wc.heap.size := by omega
   clear hb8
   go_wp2_with fail
   refine bodyPost_ret (v := .tuple #[.agg #[.slice A' (putL L ({ y with par := p.par } :: r) p.par p.aft).length c'], .int .i64 0]) (by simp [results, Tryz.results38, go_sem, R8, RF8, y48]) rfl ⟨_, rfl, ⟨A', c', rfl, Sl.keep hr' (by simp) (fun b o hA _ => Below.heap_setCell _ _ _ _ (by have := hA' b o hA; show b ≠ w.heap.size + 1 + 1; omega)), hlc', fun b o hA => by have := hA' b o hA; omega⟩, ?_⟩
   exact HB8.out.setCell (show w.heap.size ≤ w.heap.size + 1 + 1 by omega) _
end Go.Proofs.YtfolcjkednmkoaaGreat
namespace Go.Proofs.YtfolcjkednmkoaaGreat
open Go.RowKit
theorem rapply_any (l : List Item) (A : Option Addr) (c : Nat) (p : Patch) (w : World) (hr : RdI w A l) (hl : l.length ≤ 100000) (hlc : l.length ≤ c) (hsh : ∀ x ∈ l, x.Short) (hps : p.item.Short) (hpn : p.num.length ≤ maxLen) (hfr : p.fr.length ≤ 1000000) (htt : p.to.length ≤ 1000000) : RApplies l A c p w := by
 by_cases h0 : (applyF l p).2 = 0
 · obtain ⟨R, hg, hf, hc⟩ := apply_done h0
   rcases hc with ⟨a, b, o, hI⟩ | ⟨a, e, x, o, hC⟩ | ⟨a, x, o, r, b, a', b', o', hM⟩
   · exact rap_1 l A c p w hr hl hlc hsh hps hpn hfr htt h0 hI.kind
   · have hkk := formed_kind hf
     have hlk := hg.look_row hC.eq
     have hfi : findI l p.id = a.length := by rw [← hC.id]; exact hlk.1
     have hit := hC.it
     have hks : p.kind = 2 ∨ p.kind = 3 ∨ p.kind = 5 ∨ p.kind = 6 ∨ p.kind = 7 := by have := hC.kind; omega
     have hpx := proper_len (hg.pr x (List.mem_of_getElem? hlk.2.2))
     rcases hks with hk | hk | hk | hk | hk
     · have hon := hC.words hk
       have hla : p.lang = 1 ∨ p.lang = 2 := by
        unfold formedF at hf
        simp [hk] at hf
        exact hf.2.2
       rcases hla with hla | hla
       · have hwt : wordsText p x = x.no := by unfold wordsText; rw [if_pos hla]
         rw [hwt] at hon
         obtain ⟨i, hi, hro⟩ := once_room hon
         refine rap_2no l A c p w hr hl hlc hsh hps hpn hfr htt h0 hk a.length x hfi hlk.2.2 hla hpx.1 hpx.2 i hi hro _ rfl ?_
         rw [hit]
         unfold chgF wordsPut wordsNew
         rw [if_pos hk, if_pos hla, hwt, hi, Int.toNat_natCast]
       · have hwt : wordsText p x = x.so := by unfold wordsText; rw [if_neg (by omega)]
         rw [hwt] at hon
         obtain ⟨i, hi, hro⟩ := once_room hon
         refine rap_2so l A c p w hr hl hlc hsh hps hpn hfr htt h0 hk a.length x hfi hlk.2.2 hla hpx.1 hpx.2 i hi hro _ rfl ?_
         rw [hit]
         unfold chgF wordsPut wordsNew
         rw [if_pos hk, if_neg (by omega), hwt, hi, Int.toNat_natCast]
     · refine rap_3 l A c p w hr hl hlc hsh hps hpn hfr htt h0 hk a.length x hfi hlk.2.2 ?_
       rw [hit]; unfold chgF; rw [if_neg (by omega), if_pos hk]
     · refine rap_5 l A c p w hr hl hlc hsh hps hpn hfr htt h0 hk a.length x hfi hlk.2.2 ?_
       rw [hit]; unfold chgF; rw [if_neg (by omega), if_neg (by omega), if_neg (by omega)]; simp [hk]
     · refine rap_6 l A c p w hr hl hlc hsh hps hpn hfr htt h0 hk a.length x hfi hlk.2.2 ?_
       rw [hit]; unfold chgF; rw [if_neg (by omega), if_neg (by omega), if_neg (by omega)]; simp [hk]
     · refine rap_7 l A c p w hr hl hlc hsh hps hpn hfr htt h0 hk a.length x hfi hlk.2.2 ?_
       rw [hit]; unfold chgF; rw [if_neg (by omega), if_neg (by omega), if_pos hk]
   · have hB := hM.mv.block
     have hid := hM.mv.id
     have hlk := hg.look_row hB.eq
     have hfi : findI l p.id = a.length := by rw [← hid]; exact hlk.1
     have hbel : belowL l p.id = idsR r := by rw [← hid]; exact hg.below hB
     obtain ⟨e1, e2⟩ := rest_items hg hB
     have hel : a.length + (1 + (belowL l p.id).length) ≤ l.length := by
      have h1 := hg.len
      have h2 := congrArg List.length hB.eq
      rw [hbel]
      simp [idsR] at h2 ⊢
      omega
     have hok : PutOk (l.take a.length ++ l.drop (a.length + (1 + (belowL l p.id).length))) p.par p.aft := by
      rw [hbel, e1]; exact hM.mv.place.ok
     have hblk : (l.drop a.length).take (a.length + (1 + (belowL l p.id).length) - a.length) = x :: r.map (·.1) := by
      rw [Nat.add_sub_cancel_left, hbel]; exact e2
     have hres : (applyF l p).1 = putL (l.take a.length ++ l.drop (a.length + (1 + (belowL l p.id).length))) ({ x with par := p.par } :: r.map (·.1)) p.par p.aft := by
      rw [hM.it]
      unfold moveL
      rw [hbel, e2]
     by_cases hce : c = a.length + (1 + (belowL l p.id).length)
     · exact rap_4e l A c p w hr hl hlc hsh hps hpn hfr htt h0 hM.kind a.length x hfi hlk.2.2 hid _ rfl hel _ hblk hok hce hres
     · exact rap_4n l A c p w hr hl hlc hsh hps hpn hfr htt h0 hM.kind a.length x hfi hlk.2.2 hid _ rfl hel _ hblk hok hce hres
 · exact rap_err l A c p w hr hl hlc hsh hps hpn hfr htt _ rfl h0
end Go.Proofs.YtfolcjkednmkoaaGreat
set_option maxRecDepth 20000
set_option maxHeartbeats 4000000
namespace Go.Proofs.YtfolcjkednmkoaaGreat
open Go.RowKit
structure Patch.RReady (p : Patch) : Prop where
 item : p.item.Short
 num : p.num.length ≤ maxLen
 flen : p.fr.length ≤ 1000000
 tlen : p.to.length ≤ 1000000
def RAlls (l : List Item) (ps : List Patch) (A B : Option Addr) (c d : Nat) (w : World) : Prop :=
 Calls Tryz.prog 19 #[.agg #[.slice A l.length c], .slice B ps.length d] w fun e w' => ∃ A' c', e = .returned (.tuple #[.agg #[.slice A' (allR l ps).1.length c'], .int .i64 (allR l ps).2.1, .int .i64 (allR l ps).2.2]) ∧ RdI w' A' (allR l ps).1 ∧ (allR l ps).1.length ≤ c' ∧ Below w.heap.size w w'
theorem rapply_lit {l : List Item} {p : Patch} {r : List Item} {e : Int} (h1 : (applyF l p).1 = r) (h2 : (applyF l p).2 = e) (A : Option Addr) (c : Nat) (w : World) (hr : RdI w A l) (hl : l.length ≤ 100000) (hlc : l.length ≤ c) (hsh : ∀ x ∈ l, x.Short) (hrd : p.RReady) :
 Calls Tryz.prog 38 #[.agg #[.slice A l.length c], p.agg] w fun en w' => ∃ v, en = .returned (.tuple #[v, .int .i64 e]) ∧ ResC w.heap.size w' v r ∧ Below w.heap.size w w' := by
 have := rapply_any l A c p w hr hl hlc hsh hrd.item hrd.num hrd.flen hrd.tlen
 unfold RApplies at this
 rw [h1, h2] at this
 exact this
theorem rall_f (l : List Item) (ps : List Patch) (A B : Option Addr) (c d : Nat) (w : World) (hr : RdI w A l) (hl : l.length ≤ 100000) (hsh : ∀ x ∈ l, x.Short) (hv : walkB l = false) : RAlls l ps A B c d w := by
 unfold RAlls
 have hE : allR l ps = ([], -1, 1) := by unfold allR; rw [hv]; rfl
 have HE := Lib.hid hE; clear hE
 have HV := fun W h => Lib.hid (rvalid_any l A c W h (by omega) hsh)
 have HR := Lib.hid hr; clear hr
 have Hv := Lib.hid hv; clear hv
 have hb0 := ((Below.refl w.heap.size w).alloc (Nat.le_refl _) (.cells #[.slice A l.length c] 24)).alloc (by simp) (.cells #[.slice none 0 0] 24)
 have HB0 := Lib.hid hb0; clear hb0
 go_enter Tryz.func19, Tryz.ntmps19
 go_wp2_with fail
 refine (HV _ (HR.out.below HB0.out)).out.mono ?_
 rintro e w1 ⟨rfl, hb1⟩
 rw [Hv.out]
 obtain ⟨hc, hf⟩ := bcell hb1
 have HB1 := Lib.hid hb1; clear hb1
 go_wp2_with fail
 refine bodyPost_ret (v := .tuple #[.agg #[.slice none 0 0], .int .i64 (-1), .int .i64 1]) (by simp [results, Tryz.results19, go_sem, hc, hf]) rfl ⟨none, 0, by rw [HE.out]; rfl, by rw [HE.out]; exact Sl.nil, by rw [HE.out]; simp, ?_⟩
 exact Below.setCell (p := ⟨w.heap.size + 1, 0, none⟩) (HB0.out.trans (HB1.out.mono HB0.out.size)) (show w.heap.size ≤ w.heap.size + 1 by omega) _
theorem rall_t (l : List Item) (ps : List Patch) (A B : Option Addr) (c d : Nat) (w : World) (hr : RdI w A l) (hs : RdP w B ps) (hl : l.length ≤ 100000) (hlc : l.length ≤ c) (hps : ps.length ≤ 1000000) (hrd : ∀ p ∈ ps, p.RReady)
 (hv : walkB l = true) : RAlls l ps A B c d w := by
 unfold RAlls
 have hE : allR l ps = allF l ps 0 := by unfold allR; rw [hv]; rfl
 have HE := Lib.hid hE; clear hE
 have HV := fun W h => Lib.hid (rvalid_any l A c W h (by omega) (short_of_good hv))
 have HR := Lib.hid hr; clear hr
 have HS := Lib.hid hs; clear hs
 have Hv := Lib.hid hv; clear hv
 have HRD := Lib.hid hrd; clear hrd
 have hb0 := ((Below.refl w.heap.size w).alloc (Nat.le_refl _) (.cells #[.slice A l.length c] 24)).alloc (by simp) (.cells #[.slice none 0 0] 24)
 have HB0 := Lib.hid hb0; clear hb0
 go_enter Tryz.func19, Tryz.ntmps19
 go_wp2_with fail
 refine (HV _ (HR.out.below HB0.out)).out.mono ?_
 rintro e w1 ⟨rfl, hb1⟩
 rw [Hv.out]
 have HB1 := Lib.hid hb1; clear hb1
 go_wp2_with fail
 go_loopw [7] (fun i wr => ∃ (k : Nat) (r : List Item) (A' : Option Addr) (c' : Nat), k ≤ ps.length ∧ i = .int .i64 k ∧ allF l (ps.take k) 0 = (r, -1, 0) ∧ walkB r = true ∧ r.length ≤ c' ∧ RdI wr A' r ∧ wr.heap[w.heap.size]? = some (.cells #[.slice A' r.length c'] 24 (0, 0)) ∧
  wr.heap[w.heap.size + 1]? = some (.cells #[.slice none 0 0] 24 (0, 0)) ∧ (r ≠ [] → ∀ b o, A' = some ⟨b, o, none⟩ → b ≠ w.heap.size ∧ b ≠ w.heap.size + 1) ∧ Below w.heap.size w wr) (fun i _ => ps.length - (intOf i).toNat)
 case atStart =>
  refine ⟨0, l, A, c, Nat.zero_le _, rfl, by simp [allF], Hv.out, hlc, (HR.out.below HB0.out).below HB1.out, ?_, ?_, ?_, HB0.out.trans (HB1.out.mono HB0.out.size)⟩
  · rw [HB1.out.block _ (by simp; omega)]; exact heap_old_at (by simp) (heap_new_at rfl)
  · rw [HB1.out.block _ (by simp)]; exact heap_new_at (by simp)
  · intro hne b o hA
    obtain ⟨b', o', hA', hlt, _⟩ := HR.out hne
    rw [hA] at hA'
    cases hA'
    omega
 case round =>
  obtain ⟨k, r, A', c', hk, rfl, hall, hvr, hrc, hrr, hh2, hh4, hne, hb⟩ := hrel
  have hr2 : r.length ≤ 2000 := len_of_good hvr
  have HVR := Lib.hid hvr; clear hvr
  have HALL := Lib.hid hall; clear hall
  have HRR := Lib.hid hrr; clear hrr
  have HNE := Lib.hid hne; clear hne
  have HB := Lib.hid hb; clear hb
  have h2 := cell_of_row wr _ 0 _ _ _ hh2
  have h4 := cell_of_row wr _ 0 _ _ _ hh4
  simp only [List.getElem?_toArray, List.getElem?_cons_zero] at h2 h4
  have z1 := lt_of_heap hh2
  have z2 := lt_of_heap hh4
  by_cases hlt : k < ps.length
  · obtain ⟨p, hp⟩ := get_of_lt hlt
    have hi1 : (k : Int) < ps.length := by omega
    have hi0 : (0 : Int) ≤ k := by omega
    obtain ⟨b2, o2, C, t, fr, rfl, hbs2, hblk, hC, hex⟩ := (HS.out.below HB.out).row hp
    have HP := Lib.hid hp; clear hp
    have hready := HRD.out p (List.mem_of_getElem? HP.out)
    obtain ⟨ql, hql⟩ : ∃ ql, (applyF r p).1 = ql := ⟨_, rfl⟩
    obtain ⟨qe, hqe⟩ : ∃ qe, (applyF r p).2 = qe := ⟨_, rfl⟩
    have HQL := Lib.hid hql; clear hql
    have HQE := Lib.hid hqe; clear hqe
    have HH2 := Lib.hid hh2; clear hh2
    have HH4 := Lib.hid hh4; clear hh4
    have : w.heap.size < wr.heap.size := z1
    have : ¬ w.heap.size = wr.heap.size := (by omega)
    have : ¬ wr.heap.size = w.heap.size := (by omega)
    have : b2 < wr.heap.size := hbs2
    have : ¬ b2 = wr.heap.size := (by omega)
    have : ¬ wr.heap.size = b2 := (by omega)
    go_wp2_with fail
    go_cut [8, 9] (fun v8 v9 wc => ∃ (b : Nat) (A2 : Option Addr) (c2 : Nat), v8 = .pointer (some ⟨b, 0, none⟩) ∧ v9 = .int .i64 qe ∧ wc.cell? ⟨b, 0, none⟩ = some (.slice A2 ql.length c2) ∧ RdI wc A2 ql ∧ ql.length ≤ c2 ∧ (∀ b' o', A2 = some ⟨b', o', none⟩ → wr.heap.size ≤ b') ∧ Below wr.heap.size wr wc)
    case first =>
     go_region_held3 (fun X => X.cell? ⟨w.heap.size, 0, none⟩ = some (.slice A' r.length c') ∧ X.blk b2 = some (.cells C t fr)) ((go_split_ands; refine ⟨?_, ?_⟩ <;> (first | go_keep | (simp [go_sem, *]; done))))
      (first | (go_at_call 38; refine (rapply_lit HQL.out HQE.out A' c' _ (by first | exact HRR.out.below (Below.refl _ _).drew | exact HRR.out.below ((Below.refl _ _).drew.alloc (Nat.le_refl _) _)) (by omega) hrc (short_of_good HVR.out) hready).mono ?_; rintro e w4 ⟨v, rfl, ⟨A2, c2, rfl, hr2, hlc2, hA2⟩, hb4⟩; obtain ⟨hc, hf⟩ := bcell hb4; have hblk := bblk hb4; simp at hc hf hblk; have hz4 := hb4.size; simp at hz4; have : w.heap.size < w4.heap.size := (by omega); have : ¬ w.heap.size = w4.heap.size := (by omega); have : ¬ w4.heap.size = w.heap.size := (by omega); have : b2 < w4.heap.size := (by omega); have : ¬ b2 = w4.heap.size := (by omega); have : ¬ w4.heap.size = b2 := (by omega)))
     · go_wp2_with fail
       go_meet
       case rel =>
        have q2 := hb4.size
        try simp at q2
        exact ⟨w4.heap.size, A2, c2, rfl, rfl, by simp [go_sem], hr2.below ((Below.refl _ _).alloc (Nat.le_refl _) _), hlc2, fun b' o' hA => by have := hA2 b' o' hA; simp at this; omega, ((Below.refl wr.heap.size wr).drew.trans (hb4.mono (by simp))).alloc (by first | omega | (simp; omega)) _⟩
     · go_wp2_with fail
       go_meet
       case rel =>
        have q2 := hb4.size
        try simp at q2
        have hh : w4.cell? ⟨wr.heap.size, 0, none⟩ = some (.slice none 0 0) := (hb4.cell (p := ⟨wr.heap.size, 0, none⟩) (by simp)).trans (by simp [go_sem])
        refine ⟨wr.heap.size, A2, c2, rfl, rfl, World.cell?_setCell_same _ _ _ hh, Sl.keep hr2 (by simp) (fun b' o' hA _ => Below.heap_setCell _ _ _ _ ?_), hlc2, fun b' o' hA => by have := hA2 b' o' hA; simp at this; omega, ?_⟩
        · have := hA2 b' o' hA
          simp at this ⊢
          omega
        · exact Below.setCell (p := ⟨wr.heap.size, 0, none⟩) (((Below.refl wr.heap.size wr).drew.alloc (by simp) _).trans (hb4.mono (by simp))) (Nat.le_refl _) _
    case' rest =>
     obtain ⟨b8, A2, c2, rfl, rfl, k8, hr2', hlc2, hA2, hx⟩ := hcut
     have k2 := step_cell hx h2
     have k4 := step_cell hx h4
     have k2f : wc.frozen? ⟨w.heap.size, 0, none⟩ = false := (hx.frozen (p := ⟨w.heap.size, 0, none⟩) z1).trans (frozen_of_row wr _ 0 _ _ HH2.out)
     have k4f : wc.frozen? ⟨w.heap.size + 1, 0, none⟩ = false := (hx.frozen (p := ⟨w.heap.size + 1, 0, none⟩) z2).trans (frozen_of_row wr _ 0 _ _ HH4.out)
     have y1 := World.block_lt_of_cell? _ _ k2
     have y2 := World.block_lt_of_cell? _ _ k4
     have y8 := World.block_lt_of_cell? _ _ k8
     have HX := Lib.hid hx; clear hx
     clear h2 h4 hblk hC hex
     cases h0 : (qe != 0)
     all_goals
      have H0 := Lib.hid h0
      go_wp2_with fail
     · -- the patch was possible
       have h0' : (applyF r p).2 = 0 := by rw [HQE.out]; simpa using H0.out
       have hgood := (kept_law h0').good
       obtain ⟨t1, _⟩ := all_take HALL.out HP.out
       have t1 := t1 h0'
       refine ⟨⟨k + 1, ql, A2, c2, by omega, by go_num, by rw [t1, HQL.out], by rw [← HQL.out]; exact hgood, hlc2, ?_, ?_, ?_, ?_, ?_⟩, by simp [intOf]; omega⟩
       · refine Sl.keep hr2' (by simp) (fun b o hA hlt2 => ?_)
         have hge := hA2 b o hA
         exact Below.heap_setCell _ _ _ _ (by show b ≠ w.heap.size; omega)
       · have hh := (HX.out.block _ z1).trans HH2.out
         exact heap_setCell_same _ _ _ _ _ _ hh
       · have hh := (HX.out.block _ z2).trans HH4.out
         exact (Below.heap_setCell _ _ _ _ (by simp)).trans hh
       · intro _ b o hA
         have hge := hA2 b o hA
         omega
       · exact (HB.out.trans (HX.out.mono HB.out.size)).setCell (p := ⟨w.heap.size, 0, none⟩) (show w.heap.size ≤ w.heap.size by omega) _
     · have h0' : (applyF r p).2 ≠ 0 := by rw [HQE.out]; simpa using H0.out
       obtain ⟨_, t2⟩ := all_take HALL.out HP.out
       have t2 := t2 h0'
       refine bodyPost_ret (v := .tuple #[.agg #[.slice none 0 0], .int .i64 k, .int .i64 qe]) (by simp [results, Tryz.results19, go_sem, k4, k4f, y2]) rfl ⟨none, 0, by rw [HE.out, t2, HQE.out]; rfl, by rw [HE.out, t2]; exact Sl.nil, by rw [HE.out, t2]; simp, ?_⟩
       exact Below.setCell (p := ⟨w.heap.size + 1, 0, none⟩) (HB.out.trans (HX.out.mono HB.out.size)) (show w.heap.size ≤ w.heap.size + 1 by omega) _
  · have : k = ps.length := by omega
    subst this
    have h4f := frozen_of_row wr _ 0 _ _ hh4
    have t : allF l ps 0 = (r, -1, 0) := by have := HALL.out; rwa [List.take_of_length_le (Nat.le_refl _)] at this
    have HT := Lib.hid t; clear t
    have HH2 := Lib.hid hh2; clear hh2
    have HH4 := Lib.hid hh4; clear hh4
    go_wp2_with fail
    refine bodyPost_ret (v := .tuple #[.agg #[.slice A' r.length c'], .int .i64 (-1), .int .i64 0]) (by simp [results, Tryz.results19, go_sem, h4, h4f, z2]) rfl ⟨A', c', by rw [HE.out, HT.out], by rw [HE.out, HT.out]; exact fun hq => Sl.keep HRR.out (by simp) (fun b o hA _ => Below.heap_setCell _ _ _ _ (HNE.out hq b o hA).2) hq, by rw [HE.out, HT.out]; exact hrc, ?_⟩
    exact Below.setCell (p := ⟨w.heap.size + 1, 0, none⟩) HB.out (show w.heap.size ≤ w.heap.size + 1 by omega) _
theorem rall_any (l : List Item) (ps : List Patch) (A B : Option Addr) (c d : Nat) (w : World) (hr : RdI w A l) (hs : RdP w B ps) (hl : l.length ≤ 100000) (hlc : l.length ≤ c) (hsh : ∀ x ∈ l, x.Short) (hps : ps.length ≤ 1000000) (hrd : ∀ p ∈ ps, p.RReady) : RAlls l ps A B c d w := by
 cases hv : walkB l with
 | false => exact rall_f l ps A B c d w hr hl hsh hv
 | true => exact rall_t l ps A B c d w hr hs hl hlc hps hrd hv
end Go.Proofs.YtfolcjkednmkoaaGreat
