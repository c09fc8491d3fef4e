/- patch.Apply. -/
import Derived.Test.YtecnlfaholmpoaaGreatJC19
import Derived.Test.YtecnlfaholmpoaaGreatJC11
import Derived.Deep.RegionHeld3
import Derived.Deep.DeepCutAuto
import Derived.Deep.DrawnRows
import Derived.Laws.EntriesVeiled
set_option linter.unusedVariables false
set_option linter.unusedSimpArgs false
set_option maxRecDepth 20000
set_option maxHeartbeats 4000000
namespace Go.Proofs.YtecnlfaholmpoaaGreat
open Go.RowKit
attribute [local go_sem ↓] Go.wp_at_zero Go.wp_at_succ
abbrev patCs (p : Patch) : Array Value := #[.int .i64 p.kind, vs p.id, vs p.par, vs p.aft, vs p.num, .int .i64 p.item.kind, vs p.item.id, vs p.item.par, vs p.item.num, vs p.item.no, vs p.item.so, .bool p.item.gone, .int .i64 p.lang, vs p.fr, vs p.to]
abbrev chgCs (A : Option Addr) (n c : Nat) (p : Patch) (ix : Int) : Array Value := #[.slice A n c, .int .i64 p.kind, vs p.id, vs p.par, vs p.aft, vs p.num, .int .i64 p.item.kind, vs p.item.id, vs p.item.par, vs p.item.num, vs p.item.no, vs p.item.so, .bool p.item.gone, .int .i64 p.lang, vs p.fr, vs p.to, .int .i64 ix]
/- what Apply answers -/
def Applies (l : List Item) (A : Option Addr) (c : Nat) (p : Patch) (w : World) : Prop :=
 Calls Tryz.prog 28 #[.agg #[.slice A l.length c], p.agg] w fun e w' => ∃ v, e = .returned (.tuple #[v, .int .i64 (applyF l p).2]) ∧ ResC w.heap.size w' v (applyF l p).1 ∧ Below w.heap.size w w'
theorem ap_none {l : List Item} {p : Patch} (hv : walkB l = true) (hf : formedF p = true) (h1 : p.kind ≠ 1) (h : (itemF l p.id).kind = 0 ∨ ((itemF l p.id).kind = 1 ∧ p.kind ≠ 3 ∧ p.kind ≠ 4)) : applyF l p = ([], 11) := by
 unfold applyF
 rw [if_neg (by rw [hv, hf]; simp), if_neg h1, if_pos h]
theorem ap_state {l : List Item} {p : Patch} (hv : walkB l = true) (hf : formedF p = true) (h1 : p.kind ≠ 1) (h : ¬ ((itemF l p.id).kind = 0 ∨ ((itemF l p.id).kind = 1 ∧ p.kind ≠ 3 ∧ p.kind ≠ 4))) (h6 : p.kind = 6) (hg : (itemF l p.id).gone = false) : applyF l p = ([], 12) := by
 unfold applyF
 rw [if_neg (by rw [hv, hf]; simp), if_neg h1, if_neg h, if_pos ⟨h6, hg⟩]
theorem ap_gone {l : List Item} {p : Patch} (hv : walkB l = true) (hf : formedF p = true) (h1 : p.kind ≠ 1) (h : ¬ ((itemF l p.id).kind = 0 ∨ ((itemF l p.id).kind = 1 ∧ p.kind ≠ 3 ∧ p.kind ≠ 4))) (h6 : p.kind ≠ 6) (hg : (itemF l p.id).gone = true) : applyF l p = ([], 16) := by
 unfold applyF
 rw [if_neg (by rw [hv, hf]; simp), if_neg h1, if_neg h, if_neg (fun h => h6 h.1), if_pos ⟨h6, hg⟩]
theorem apply_t (l : List Item) (A : Option Addr) (c : Nat) (p : Patch) (w : World) (hr : RdI w A l) (hl : l.length ≤ 100000) (hsh : ∀ x ∈ l, x.Short) (hps : p.item.Short) (hpn : p.num.length ≤ maxLen)
 (hv : walkB l = true) (hfo : formedF p = true)
 (hD1 : p.kind = 1 → ∀ W, Below w.heap.size w W → Does 60 l A c p (findI l p.id) W (applyF l p))
 (hD2 : p.kind = 2 → ((itemF l p.id).kind == 0) = false → ((itemF l p.id).kind == 1) = false → (itemF l p.id).gone = false → ∀ W, Below w.heap.size w W → Does 61 l A c p (findI l p.id) W (applyF l p))
 (hD3 : p.kind = 3 → ((itemF l p.id).kind == 0) = false → (itemF l p.id).gone = false → ∀ W, Below w.heap.size w W → Does 62 l A c p (findI l p.id) W (applyF l p))
 (hD4 : p.kind = 4 → ((itemF l p.id).kind == 0) = false → (itemF l p.id).gone = false → ∀ W, Below w.heap.size w W → Does 63 l A c p (findI l p.id) W (applyF l p))
 (hD5 : p.kind = 5 → ((itemF l p.id).kind == 0) = false → ((itemF l p.id).kind == 1) = false → (itemF l p.id).gone = false → ∀ W, Below w.heap.size w W → Does 64 l A c p (findI l p.id) W (applyF l p))
 (hD6 : p.kind = 6 → ((itemF l p.id).kind == 0) = false → ((itemF l p.id).kind == 1) = false → (itemF l p.id).gone = true → ∀ W, Below w.heap.size w W → Does 64 l A c p (findI l p.id) W (applyF l p))
 (hD7 : p.kind = 7 → ((itemF l p.id).kind == 0) = false → ((itemF l p.id).kind == 1) = false → (itemF l p.id).gone = false → ∀ W, Below w.heap.size w W → Does 65 l A c p (findI l p.id) W (applyF l p)) : Applies l A c p w := by
 unfold Applies
 have hkk := formed_kind hfo
 have HV := fun W h => Lib.hid (valid_any l A c W h (by omega) hsh)
 have HF := fun W => Lib.hid (formed_any p W hps hpn)
 have HI := fun W h => Lib.hid (find_any l A c p.id W h (le_maxLen (by omega)))
 have HR := Lib.hid hr; clear hr
 have HSH := Lib.hid hsh; clear hsh hps
 unfold Does at hD1
 have HD1 := Lib.hid hD1; clear hD1
 unfold Does at hD2
 have HD2 := Lib.hid hD2; clear hD2
 unfold Does at hD3
 have HD3 := Lib.hid hD3; clear hD3
 unfold Does at hD4
 have HD4 := Lib.hid hD4; clear hD4
 unfold Does at hD5
 have HD5 := Lib.hid hD5; clear hD5
 unfold Does at hD6
 have HD6 := Lib.hid hD6; clear hD6
 unfold Does at hD7
 have HD7 := Lib.hid hD7; clear hD7
 have Hv := Lib.hid hv; clear hv
 have Hfo := Lib.hid hfo; clear hfo
 have hb0 := ((((Below.refl w.heap.size w).alloc (Nat.le_refl _) (.cells #[.slice A l.length c] 24)).alloc (by simp) (.cells (patCs p) 49)).alloc (by simp; omega) (.cells #[.slice none 0 0] 24))
 have HB0 := Lib.hid hb0; clear hb0
 go_enter Tryz.func28, Tryz.ntmps28
 go_wp2_with fail
 refine (HV _ (HR.out.below HB0.out)).out.mono ?_
 rintro e w1 ⟨rfl, hb1⟩
 rw [Hv.out]
 obtain ⟨hc, hf⟩ := bcell hb1
 have hblk := bblk hb1
 have HB1 := Lib.hid hb1; clear hb1
 go_wp2_with fail
 refine (HF _).out.mono ?_
 rintro e w2 ⟨rfl, hb2⟩
 rw [Hfo.out]
 have hb3 := HB1.out.trans (hb2.mono HB1.out.size)
 clear hc hf hblk hb2 HB1
 obtain ⟨hc, hf⟩ := bcell hb3
 have hblk := bblk hb3
 have HB3 := Lib.hid hb3; clear hb3
 go_wp2_with fail
 go_cut [6] (fun v6 wc => ∃ b, v6 = .pointer (some ⟨b, 0, none⟩) ∧ w.heap.size + 3 ≤ b ∧ wc.heap[b]? = some (.cells (chgCs A l.length c p (findI l p.id)) 94 (0, 0)) ∧
  Below (((w.alloc (.cells #[.slice A l.length c] 24)).alloc (.cells (patCs p) 49)).alloc (.cells #[.slice none 0 0] 24)).heap.size (((w.alloc (.cells #[.slice A l.length c] 24)).alloc (.cells (patCs p) 49)).alloc (.cells #[.slice none 0 0] 24)) wc)
 case first =>
  have hsz := HB3.out.size
  simp at hsz
  have k1 : w2.cell? ⟨w.heap.size, 0, none⟩ = some (.slice A l.length c) := (hc _ _ (by simp; omega)).trans (by simp [go_sem])
  have k2 : w2.blk (w.heap.size + 1) = some (.cells (patCs p) 49 (0, 0)) := (hblk _ (by simp)).trans (by simp [go_sem])
  have k3 : w2.cell? ⟨w.heap.size + 1, 1, none⟩ = some (vs p.id) := (hc _ _ (by simp)).trans (by simp [go_sem])
  have z1 : w.heap.size < w2.heap.size := by omega
  have z2 : w.heap.size + 1 < w2.heap.size := by omega
  have z3 : w.heap.size < w2.heap.size + 1 := by omega
  have z4 : w.heap.size + 1 < w2.heap.size + 1 := by omega
  have y1 : ¬ w.heap.size = w2.heap.size := by omega
  have y2 : ¬ w2.heap.size = w.heap.size := by omega
  have y3 : ¬ w.heap.size + 1 = w2.heap.size := by omega
  have y4 : ¬ w2.heap.size = w.heap.size + 1 := by omega
  have HRD := Lib.hid ((HR.out.below HB0.out).below HB3.out)
  clear hc hf hblk hsz
  go_region_held3 (fun W => W.cell? ⟨w.heap.size, 0, none⟩ = some (.slice A l.length c) ∧ W.blk (w.heap.size + 1) = some (.cells (patCs p) 49 (0, 0)) ∧ W.cell? ⟨w.heap.size + 1, 1, none⟩ = some (vs p.id)) ((go_split_ands; refine ⟨?_, ?_, ?_⟩ <;> (first | go_keep | (simp [go_sem, *]; done))))
   (first | (go_at_call 59; refine (HI _ (by first | exact HRD.out.below (Below.refl _ _).drew | exact HRD.out.below ((Below.refl _ _).drew.alloc (Nat.le_refl _) _))).out.mono ?_; rintro e w4 ⟨rfl, hb4⟩; obtain ⟨hc, hf⟩ := bcell hb4; have hblk := bblk hb4; simp at hc hf hblk; have hz4 := hb4.size; simp at hz4; have z5 : w.heap.size < w4.heap.size := (by omega); have z6 : w.heap.size + 1 < w4.heap.size := (by omega)))
  · go_wp2_with fail
    go_meet
    case rel =>
     have q1 := HB3.out.size
     have q2 := hb4.size
     simp at q1 q2
     exact ⟨w4.heap.size, rfl, by omega, heap_new_at rfl, (HB3.out.drew.trans (hb4.mono (by simp; omega))).alloc (by simp; omega) _⟩
  · go_wp2_with fail
    go_meet
    case rel =>
     have q1 := HB3.out.size
     have q2 := hb4.size
     simp at q1 q2
     have hh := (hb4.block w2.heap.size (by simp)).trans (heap_new_at (by simp))
     refine ⟨w2.heap.size, rfl, by omega, ?_, ?_⟩
     · have h0 := row_setCell (o := 0) (u := .slice A l.length c) hh
       have h1 := row_setCell (o := 1) (u := .int .i64 p.kind) h0
       have h2 := row_setCell (o := 2) (u := vs p.id) h1
       have h3 := row_setCell (o := 3) (u := vs p.par) h2
       have h4 := row_setCell (o := 4) (u := vs p.aft) h3
       have h5 := row_setCell (o := 5) (u := vs p.num) h4
       have h6 := row_setCell (o := 6) (u := .int .i64 p.item.kind) h5
       have h7 := row_setCell (o := 7) (u := vs p.item.id) h6
       have h8 := row_setCell (o := 8) (u := vs p.item.par) h7
       have h9 := row_setCell (o := 9) (u := vs p.item.num) h8
       have h10 := row_setCell (o := 10) (u := vs p.item.no) h9
       have h11 := row_setCell (o := 11) (u := vs p.item.so) h10
       have h12 := row_setCell (o := 12) (u := .bool p.item.gone) h11
       have h13 := row_setCell (o := 13) (u := .int .i64 p.lang) h12
       have h14 := row_setCell (o := 14) (u := vs p.fr) h13
       have h15 := row_setCell (o := 15) (u := vs p.to) h14
       have h16 := row_setCell (o := 16) (u := .int .i64 (findI l p.id)) h15
       exact h16.trans (by simp)
     · repeat' refine Below.setCell ?_ (by simp; omega) _
       exact (HB3.out.drew.alloc (by simp; omega) _).trans (hb4.mono (by simp; omega))
 case rest =>
  obtain ⟨b, rfl, hb, hbc, hbw⟩ := hcut
  have hsz := hbw.size
  simp at hsz
  have z1 : w.heap.size < wc.heap.size := by omega
  have z2 : w.heap.size + 1 < wc.heap.size := by omega
  have z3 : w.heap.size + 1 + 1 < wc.heap.size := by omega
  have zb : b < wc.heap.size := lt_of_heap hbc
  have hbc' : wc.blk b = some (.cells (chgCs A l.length c p (findI l p.id)) 94 (0, 0)) := hbc
  clear hc hf hblk HB3
  obtain ⟨hc, hf⟩ := bcell hbw
  have hblk := bblk hbw
  have HBW := Lib.hid hbw; clear hbw
  have HBC := Lib.hid hbc; clear hbc
  have hkb : 0 ≤ p.kind := by omega
  have hkc : p.kind < 8 := by omega
  have hks : p.kind = 1 ∨ p.kind = 2 ∨ p.kind = 3 ∨ p.kind = 4 ∨ p.kind = 5 ∨ p.kind = 6 ∨ p.kind = 7 := by omega
  clear hkk
  rcases hks with hk | hk | hk | hk | hk | hk | hk
  · have hk1 : (p.kind != 1) = false := by simp [hk]
    have hk3 : (p.kind != 3) = true := by simp [hk]
    have hk4 : (p.kind != 4) = true := by simp [hk]
    have hk6 : (p.kind != 6) = true := by simp [hk]
    have hk6e : (p.kind == 6) = false := by simp [hk]
    have hkn : p.kind.toNat = 1 := by simp [hk]
    have Hk := Lib.hid hk; clear hk
    have HDD := Lib.hid (HD1.out Hk.out)
    go_wp2_with fail
    have HBX := Lib.hid (HBW.out.alloc HBW.out.size (.cells #[.nilFunc, .func (.func 60) #[] #[], .func (.func 61) #[] #[], .func (.func 62) #[] #[], .func (.func 63) #[] #[], .func (.func 64) #[] #[], .func (.func 64) #[] #[], .func (.func 65) #[] #[]] 97))
    have k1 : (wc.alloc (.cells #[.nilFunc, .func (.func 60) #[] #[], .func (.func 61) #[] #[], .func (.func 62) #[] #[], .func (.func 63) #[] #[], .func (.func 64) #[] #[], .func (.func 64) #[] #[], .func (.func 65) #[] #[]] 97)).cell? ⟨w.heap.size + 1, 0, none⟩ = some (.int .i64 p.kind) := by simp [go_sem, *]
    have k2 : (wc.alloc (.cells #[.nilFunc, .func (.func 60) #[] #[], .func (.func 61) #[] #[], .func (.func 62) #[] #[], .func (.func 63) #[] #[], .func (.func 64) #[] #[], .func (.func 64) #[] #[], .func (.func 65) #[] #[]] 97)).cell? ⟨wc.heap.size, 1, none⟩ = some (.func (.func 60) #[] #[]) := by simp [go_sem, *]
    have k3 : (wc.alloc (.cells #[.nilFunc, .func (.func 60) #[] #[], .func (.func 61) #[] #[], .func (.func 62) #[] #[], .func (.func 63) #[] #[], .func (.func 64) #[] #[], .func (.func 64) #[] #[], .func (.func 65) #[] #[]] 97)).blk b = some (.cells (chgCs A l.length c p (findI l p.id)) 94 (0, 0)) := by simp [go_sem, *]
    have k4 : (wc.alloc (.cells #[.nilFunc, .func (.func 60) #[] #[], .func (.func 61) #[] #[], .func (.func 62) #[] #[], .func (.func 63) #[] #[], .func (.func 64) #[] #[], .func (.func 64) #[] #[], .func (.func 65) #[] #[]] 97)).cell? ⟨w.heap.size + 1 + 1, 0, none⟩ = some (.slice none 0 0) := by simp [go_sem, *]
    have k5 : (wc.alloc (.cells #[.nilFunc, .func (.func 60) #[] #[], .func (.func 61) #[] #[], .func (.func 62) #[] #[], .func (.func 63) #[] #[], .func (.func 64) #[] #[], .func (.func 64) #[] #[], .func (.func 65) #[] #[]] 97)).frozen? ⟨w.heap.size + 1 + 1, 0, none⟩ = false := by simp [go_sem, *]
    have k6 : w.heap.size + 1 + 1 < (wc.alloc (.cells #[.nilFunc, .func (.func 60) #[] #[], .func (.func 61) #[] #[], .func (.func 62) #[] #[], .func (.func 63) #[] #[], .func (.func 64) #[] #[], .func (.func 64) #[] #[], .func (.func 65) #[] #[]] 97)).heap.size := by simp; omega
    have k7 := HBX.out
    generalize (wc.alloc (.cells #[.nilFunc, .func (.func 60) #[] #[], .func (.func 61) #[] #[], .func (.func 62) #[] #[], .func (.func 63) #[] #[], .func (.func 64) #[] #[], .func (.func 64) #[] #[], .func (.func 65) #[] #[]] 97)) = w6 at *
    have HB7 := Lib.hid k7; clear k7
    have q1 : w.heap.size + 1 < w6.heap.size := by omega
    have n1 : ¬ b = w.heap.size + 1 + 1 := by omega
    have n2 : ¬ w.heap.size + 1 + 1 = b := by omega
    have n3 : ¬ wc.heap.size = w.heap.size + 1 + 1 := by omega
    have n4 : ¬ w.heap.size + 1 + 1 = wc.heap.size := by omega
    have q2 : b < w6.heap.size := lt_of_heap k3
    have q3 : wc.heap.size < w6.heap.size := World.block_lt_of_cell? w6 _ k2
    go_region_held3 (fun W => W.cell? ⟨w.heap.size + 1, 0, none⟩ = some (.int .i64 p.kind) ∧ W.cell? ⟨wc.heap.size, 1, none⟩ = some (.func (.func 60) #[] #[]) ∧ W.blk b = some (.cells (chgCs A l.length c p (findI l p.id)) 94 (0, 0))) ((go_split_ands; refine ⟨?_, ?_, ?_⟩ <;> (first | go_keep | (simp [go_sem, *]; done)))) (first | (go_at_call 60; refine (HDD.out _ ((HB0.out.trans (HB7.out.mono HB0.out.size)).drew)).mono ?_; rintro e w7 ⟨v, rfl, ⟨A', c', rfl, hr7, hlc', hA'⟩, hb7⟩; obtain ⟨hc, hf⟩ := bcell hb7; have hblk := bblk hb7; simp at hc hf hblk; have hz7 := hb7.size; simp at hz7; have x1 : w.heap.size + 1 + 1 < w7.heap.size := (by omega)))
    go_wp2_with fail
    refine bodyPost_ret (v := .tuple #[.agg #[.slice A' (applyF l p).1.length c'], .int .i64 (applyF l p).2]) (by simp [results, Tryz.results28, go_sem, hc, hf, k4, k5, k6, x1]) rfl ⟨_, rfl, ⟨A', c', rfl, Sl.keep hr7 (by simp) (fun b' o' hA _ => Below.heap_setCell _ _ _ _ ?_), hlc', fun b' o' hA => ?_⟩, ?_⟩
    · have h1 := hA' b' o' hA
      simp at h1 ⊢
      omega
    · have h1 := hA' b' o' hA
      simp at h1
      omega
    · exact Below.setCell (HB0.out.trans ((HB7.out.drew.trans (hb7.mono (by have := HB7.out.size; simp at this ⊢; omega))).mono HB0.out.size)) (by simp; omega) _
  · have hk1 : (p.kind != 1) = true := by simp [hk]
    have hk3 : (p.kind != 3) = true := by simp [hk]
    have hk4 : (p.kind != 4) = true := by simp [hk]
    have hk6 : (p.kind != 6) = true := by simp [hk]
    have hk6e : (p.kind == 6) = false := by simp [hk]
    have hkn : p.kind.toNat = 2 := by simp [hk]
    have Hk := Lib.hid hk; clear hk
    go_wp2_with fail
    refine (item_any l A c p _ p.id _ ((HR.out.below HB0.out).below (HBW.out.alloc HBW.out.size _)) (by omega)).mono ?_
    rintro e w5 ⟨rfl, hb5⟩
    have hsz5 := hb5.size
    simp at hsz5
    have hb6 := HBW.out.trans (((Below.refl wc.heap.size wc).alloc (Nat.le_refl _) _).trans (hb5.mono (by simp)) |>.mono HBW.out.size)
    obtain ⟨hc5, hf5⟩ := bcell hb5
    have hblk5 := bblk hb5
    have HB6 := Lib.hid hb6; clear hb6
    have HB5 := Lib.hid hb5; clear hb5
    have ht : w5.cell? ⟨wc.heap.size, 2, none⟩ = some (.func (.func 61) #[] #[]) := (hc5 _ _ (by simp)).trans (by simp [go_sem])
    have hx : w5.blk b = some (.cells (chgCs A l.length c p (findI l p.id)) 94 (0, 0)) := (hblk5 _ (by simp; omega)).trans ((blk_alloc_lt zb).trans hbc')
    have hz1 : w5.cell? ⟨w.heap.size + 1, 0, none⟩ = some (.int .i64 p.kind) := (hc5 _ _ (by simp; omega)).trans (by simp [go_sem, hc, z1, z2, z3])
    have hz2 : w5.frozen? ⟨w.heap.size + 1 + 1, 0, none⟩ = false := (hf5 _ _ (by simp; omega)).trans (by simp [go_sem, hf, z1, z2, z3])
    have hz3 : w5.cell? ⟨w.heap.size + 1 + 1, 0, none⟩ = some (.slice none 0 0) := (hc5 _ _ (by simp; omega)).trans (by simp [go_sem, hc, z1, z2, z3])
    clear hc hf hblk hc5 hf5 hblk5
    have y1 : w.heap.size + 1 < w5.heap.size := by omega
    have y2 : w.heap.size + 1 + 1 < w5.heap.size := by omega
    have y3 : wc.heap.size < w5.heap.size := by omega
    have y4 : b < w5.heap.size := by omega
    cases hy0 : ((itemF l p.id).kind == 0) with
    | true =>
      have HE := Lib.hid (ap_none Hv.out Hfo.out (by rw [Hk.out]; decide) (.inl (by simpa using hy0)))
      go_wp2_with fail
      rw [HE.out]
      refine bodyPost_ret (v := .tuple #[.agg #[.slice none 0 0], .int .i64 11]) (by simp [results, Tryz.results28, go_sem, *]) rfl ⟨_, rfl, ResC.nil _ _ _, ?_⟩
      exact (Below.setCell (p := ⟨w.heap.size + 1 + 1, 0, none⟩) (HB0.out.trans (HB6.out.mono HB0.out.size)) (show w.heap.size ≤ w.heap.size + 1 + 1 by omega) _).alloc (by simp; omega) _
    | false =>
      cases hy1 : ((itemF l p.id).kind == 1) with
      | true =>
        have HE := Lib.hid (ap_none Hv.out Hfo.out (by rw [Hk.out]; decide) (.inr ⟨by simpa using hy1, by rw [Hk.out]; decide, by rw [Hk.out]; decide⟩))
        go_wp2_with fail
        rw [HE.out]
        refine bodyPost_ret (v := .tuple #[.agg #[.slice none 0 0], .int .i64 11]) (by simp [results, Tryz.results28, go_sem, *]) rfl ⟨_, rfl, ResC.nil _ _ _, ?_⟩
        exact (Below.setCell (p := ⟨w.heap.size + 1 + 1, 0, none⟩) (HB0.out.trans (HB6.out.mono HB0.out.size)) (show w.heap.size ≤ w.heap.size + 1 + 1 by omega) _).alloc (by simp; omega) _
      | false =>
        cases hyg : (itemF l p.id).gone with
        | false =>
          have HDD := Lib.hid (HD2.out Hk.out hy0 hy1 hyg)
          go_wp2_with fail
          have k1 : (w5.alloc (.cells #[.int .i64 (itemF l p.id).kind, vs (itemF l p.id).id, vs (itemF l p.id).par, vs (itemF l p.id).num, vs (itemF l p.id).no, vs (itemF l p.id).so, .bool false] 47)).cell? ⟨w.heap.size + 1, 0, none⟩ = some (.int .i64 p.kind) := by simp [go_sem, *]
          have k2 : (w5.alloc (.cells #[.int .i64 (itemF l p.id).kind, vs (itemF l p.id).id, vs (itemF l p.id).par, vs (itemF l p.id).num, vs (itemF l p.id).no, vs (itemF l p.id).so, .bool false] 47)).cell? ⟨wc.heap.size, 2, none⟩ = some (.func (.func 61) #[] #[]) := by simp [go_sem, *]
          have k3 : (w5.alloc (.cells #[.int .i64 (itemF l p.id).kind, vs (itemF l p.id).id, vs (itemF l p.id).par, vs (itemF l p.id).num, vs (itemF l p.id).no, vs (itemF l p.id).so, .bool false] 47)).blk b = some (.cells (chgCs A l.length c p (findI l p.id)) 94 (0, 0)) := by simp [go_sem, *]
          have k4 : (w5.alloc (.cells #[.int .i64 (itemF l p.id).kind, vs (itemF l p.id).id, vs (itemF l p.id).par, vs (itemF l p.id).num, vs (itemF l p.id).no, vs (itemF l p.id).so, .bool false] 47)).cell? ⟨w.heap.size + 1 + 1, 0, none⟩ = some (.slice none 0 0) := by simp [go_sem, *]
          have k5 : (w5.alloc (.cells #[.int .i64 (itemF l p.id).kind, vs (itemF l p.id).id, vs (itemF l p.id).par, vs (itemF l p.id).num, vs (itemF l p.id).no, vs (itemF l p.id).so, .bool false] 47)).frozen? ⟨w.heap.size + 1 + 1, 0, none⟩ = false := by simp [go_sem, *]
          have k6 : w.heap.size + 1 + 1 < (w5.alloc (.cells #[.int .i64 (itemF l p.id).kind, vs (itemF l p.id).id, vs (itemF l p.id).par, vs (itemF l p.id).num, vs (itemF l p.id).no, vs (itemF l p.id).so, .bool false] 47)).heap.size := by simp; omega
          have k7 := HB6.out.alloc HB6.out.size (.cells #[.int .i64 (itemF l p.id).kind, vs (itemF l p.id).id, vs (itemF l p.id).par, vs (itemF l p.id).num, vs (itemF l p.id).no, vs (itemF l p.id).so, .bool false] 47)
          generalize (w5.alloc (.cells #[.int .i64 (itemF l p.id).kind, vs (itemF l p.id).id, vs (itemF l p.id).par, vs (itemF l p.id).num, vs (itemF l p.id).no, vs (itemF l p.id).so, .bool false] 47)) = w6 at *
          have HB7 := Lib.hid k7; clear k7
          have q1 : w.heap.size + 1 < w6.heap.size := by omega
          have n1 : ¬ b = w.heap.size + 1 + 1 := by omega
          have n2 : ¬ w.heap.size + 1 + 1 = b := by omega
          have n3 : ¬ wc.heap.size = w.heap.size + 1 + 1 := by omega
          have n4 : ¬ w.heap.size + 1 + 1 = wc.heap.size := by omega
          have q2 : b < w6.heap.size := lt_of_heap k3
          have q3 : wc.heap.size < w6.heap.size := World.block_lt_of_cell? w6 _ k2
          go_region_held3 (fun W => W.cell? ⟨w.heap.size + 1, 0, none⟩ = some (.int .i64 p.kind) ∧ W.cell? ⟨wc.heap.size, 2, none⟩ = some (.func (.func 61) #[] #[]) ∧ W.blk b = some (.cells (chgCs A l.length c p (findI l p.id)) 94 (0, 0))) ((go_split_ands; refine ⟨?_, ?_, ?_⟩ <;> (first | go_keep | (simp [go_sem, *]; done)))) (first | (go_at_call 61; refine (HDD.out _ ((HB0.out.trans (HB7.out.mono HB0.out.size)).drew)).mono ?_; rintro e w7 ⟨v, rfl, ⟨A', c', rfl, hr7, hlc', hA'⟩, hb7⟩; obtain ⟨hc, hf⟩ := bcell hb7; have hblk := bblk hb7; simp at hc hf hblk; have hz7 := hb7.size; simp at hz7; have x1 : w.heap.size + 1 + 1 < w7.heap.size := (by omega)))
          go_wp2_with fail
          refine bodyPost_ret (v := .tuple #[.agg #[.slice A' (applyF l p).1.length c'], .int .i64 (applyF l p).2]) (by simp [results, Tryz.results28, go_sem, hc, hf, k4, k5, k6, x1]) rfl ⟨_, rfl, ⟨A', c', rfl, Sl.keep hr7 (by simp) (fun b' o' hA _ => Below.heap_setCell _ _ _ _ ?_), hlc', fun b' o' hA => ?_⟩, ?_⟩
          · have h1 := hA' b' o' hA
            simp at h1 ⊢
            omega
          · have h1 := hA' b' o' hA
            simp at h1
            omega
          · exact Below.setCell (HB0.out.trans ((HB7.out.drew.trans (hb7.mono (by have := HB7.out.size; simp at this ⊢; omega))).mono HB0.out.size)) (by simp; omega) _
        | true =>
          have HE := Lib.hid (ap_gone Hv.out Hfo.out (by rw [Hk.out]; decide) (by simp at hy0 hy1; rintro (h | ⟨h, h3, h4⟩) <;> first | exact hy0 h | exact hy1 h | exact h3 Hk.out | exact h4 Hk.out) (by rw [Hk.out]; decide) hyg)
          go_wp2_with fail
          rw [HE.out]
          refine bodyPost_ret (v := .tuple #[.agg #[.slice none 0 0], .int .i64 16]) (by simp [results, Tryz.results28, go_sem, *]) rfl ⟨_, rfl, ResC.nil _ _ _, ?_⟩
          exact (Below.setCell (p := ⟨w.heap.size + 1 + 1, 0, none⟩) (HB0.out.trans (HB6.out.mono HB0.out.size)) (show w.heap.size ≤ w.heap.size + 1 + 1 by omega) _).alloc (by simp; omega) _
  · have hk1 : (p.kind != 1) = true := by simp [hk]
    have hk3 : (p.kind != 3) = false := by simp [hk]
    have hk4 : (p.kind != 4) = true := by simp [hk]
    have hk6 : (p.kind != 6) = true := by simp [hk]
    have hk6e : (p.kind == 6) = false := by simp [hk]
    have hkn : p.kind.toNat = 3 := by simp [hk]
    have Hk := Lib.hid hk; clear hk
    go_wp2_with fail
    refine (item_any l A c p _ p.id _ ((HR.out.below HB0.out).below (HBW.out.alloc HBW.out.size _)) (by omega)).mono ?_
    rintro e w5 ⟨rfl, hb5⟩
    have hsz5 := hb5.size
    simp at hsz5
    have hb6 := HBW.out.trans (((Below.refl wc.heap.size wc).alloc (Nat.le_refl _) _).trans (hb5.mono (by simp)) |>.mono HBW.out.size)
    obtain ⟨hc5, hf5⟩ := bcell hb5
    have hblk5 := bblk hb5
    have HB6 := Lib.hid hb6; clear hb6
    have HB5 := Lib.hid hb5; clear hb5
    have ht : w5.cell? ⟨wc.heap.size, 3, none⟩ = some (.func (.func 62) #[] #[]) := (hc5 _ _ (by simp)).trans (by simp [go_sem])
    have hx : w5.blk b = some (.cells (chgCs A l.length c p (findI l p.id)) 94 (0, 0)) := (hblk5 _ (by simp; omega)).trans ((blk_alloc_lt zb).trans hbc')
    have hz1 : w5.cell? ⟨w.heap.size + 1, 0, none⟩ = some (.int .i64 p.kind) := (hc5 _ _ (by simp; omega)).trans (by simp [go_sem, hc, z1, z2, z3])
    have hz2 : w5.frozen? ⟨w.heap.size + 1 + 1, 0, none⟩ = false := (hf5 _ _ (by simp; omega)).trans (by simp [go_sem, hf, z1, z2, z3])
    have hz3 : w5.cell? ⟨w.heap.size + 1 + 1, 0, none⟩ = some (.slice none 0 0) := (hc5 _ _ (by simp; omega)).trans (by simp [go_sem, hc, z1, z2, z3])
    clear hc hf hblk hc5 hf5 hblk5
    have y1 : w.heap.size + 1 < w5.heap.size := by omega
    have y2 : w.heap.size + 1 + 1 < w5.heap.size := by omega
    have y3 : wc.heap.size < w5.heap.size := by omega
    have y4 : b < w5.heap.size := by omega
    cases hy0 : ((itemF l p.id).kind == 0) with
    | true =>
      have HE := Lib.hid (ap_none Hv.out Hfo.out (by rw [Hk.out]; decide) (.inl (by simpa using hy0)))
      go_wp2_with fail
      rw [HE.out]
      refine bodyPost_ret (v := .tuple #[.agg #[.slice none 0 0], .int .i64 11]) (by simp [results, Tryz.results28, go_sem, *]) rfl ⟨_, rfl, ResC.nil _ _ _, ?_⟩
      exact (Below.setCell (p := ⟨w.heap.size + 1 + 1, 0, none⟩) (HB0.out.trans (HB6.out.mono HB0.out.size)) (show w.heap.size ≤ w.heap.size + 1 + 1 by omega) _).alloc (by simp; omega) _
    | false =>
      cases hy1 : ((itemF l p.id).kind == 1) with
      | true =>
        cases hyg : (itemF l p.id).gone with
        | false =>
          have HDD := Lib.hid (HD3.out Hk.out hy0 hyg)
          go_wp2_with fail
          have k1 : (w5.alloc (.cells #[.int .i64 (itemF l p.id).kind, vs (itemF l p.id).id, vs (itemF l p.id).par, vs (itemF l p.id).num, vs (itemF l p.id).no, vs (itemF l p.id).so, .bool false] 47)).cell? ⟨w.heap.size + 1, 0, none⟩ = some (.int .i64 p.kind) := by simp [go_sem, *]
          have k2 : (w5.alloc (.cells #[.int .i64 (itemF l p.id).kind, vs (itemF l p.id).id, vs (itemF l p.id).par, vs (itemF l p.id).num, vs (itemF l p.id).no, vs (itemF l p.id).so, .bool false] 47)).cell? ⟨wc.heap.size, 3, none⟩ = some (.func (.func 62) #[] #[]) := by simp [go_sem, *]
          have k3 : (w5.alloc (.cells #[.int .i64 (itemF l p.id).kind, vs (itemF l p.id).id, vs (itemF l p.id).par, vs (itemF l p.id).num, vs (itemF l p.id).no, vs (itemF l p.id).so, .bool false] 47)).blk b = some (.cells (chgCs A l.length c p (findI l p.id)) 94 (0, 0)) := by simp [go_sem, *]
          have k4 : (w5.alloc (.cells #[.int .i64 (itemF l p.id).kind, vs (itemF l p.id).id, vs (itemF l p.id).par, vs (itemF l p.id).num, vs (itemF l p.id).no, vs (itemF l p.id).so, .bool false] 47)).cell? ⟨w.heap.size + 1 + 1, 0, none⟩ = some (.slice none 0 0) := by simp [go_sem, *]
          have k5 : (w5.alloc (.cells #[.int .i64 (itemF l p.id).kind, vs (itemF l p.id).id, vs (itemF l p.id).par, vs (itemF l p.id).num, vs (itemF l p.id).no, vs (itemF l p.id).so, .bool false] 47)).frozen? ⟨w.heap.size + 1 + 1, 0, none⟩ = false := by simp [go_sem, *]
          have k6 : w.heap.size + 1 + 1 < (w5.alloc (.cells #[.int .i64 (itemF l p.id).kind, vs (itemF l p.id).id, vs (itemF l p.id).par, vs (itemF l p.id).num, vs (itemF l p.id).no, vs (itemF l p.id).so, .bool false] 47)).heap.size := by simp; omega
          have k7 := HB6.out.alloc HB6.out.size (.cells #[.int .i64 (itemF l p.id).kind, vs (itemF l p.id).id, vs (itemF l p.id).par, vs (itemF l p.id).num, vs (itemF l p.id).no, vs (itemF l p.id).so, .bool false] 47)
          generalize (w5.alloc (.cells #[.int .i64 (itemF l p.id).kind, vs (itemF l p.id).id, vs (itemF l p.id).par, vs (itemF l p.id).num, vs (itemF l p.id).no, vs (itemF l p.id).so, .bool false] 47)) = w6 at *
          have HB7 := Lib.hid k7; clear k7
          have q1 : w.heap.size + 1 < w6.heap.size := by omega
          have n1 : ¬ b = w.heap.size + 1 + 1 := by omega
          have n2 : ¬ w.heap.size + 1 + 1 = b := by omega
          have n3 : ¬ wc.heap.size = w.heap.size + 1 + 1 := by omega
          have n4 : ¬ w.heap.size + 1 + 1 = wc.heap.size := by omega
          have q2 : b < w6.heap.size := lt_of_heap k3
          have q3 : wc.heap.size < w6.heap.size := World.block_lt_of_cell? w6 _ k2
          go_region_held3 (fun W => W.cell? ⟨w.heap.size + 1, 0, none⟩ = some (.int .i64 p.kind) ∧ W.cell? ⟨wc.heap.size, 3, none⟩ = some (.func (.func 62) #[] #[]) ∧ W.blk b = some (.cells (chgCs A l.length c p (findI l p.id)) 94 (0, 0))) ((go_split_ands; refine ⟨?_, ?_, ?_⟩ <;> (first | go_keep | (simp [go_sem, *]; done)))) (first | (go_at_call 62; refine (HDD.out _ ((HB0.out.trans (HB7.out.mono HB0.out.size)).drew)).mono ?_; rintro e w7 ⟨v, rfl, ⟨A', c', rfl, hr7, hlc', hA'⟩, hb7⟩; obtain ⟨hc, hf⟩ := bcell hb7; have hblk := bblk hb7; simp at hc hf hblk; have hz7 := hb7.size; simp at hz7; have x1 : w.heap.size + 1 + 1 < w7.heap.size := (by omega)))
          go_wp2_with fail
          refine bodyPost_ret (v := .tuple #[.agg #[.slice A' (applyF l p).1.length c'], .int .i64 (applyF l p).2]) (by simp [results, Tryz.results28, go_sem, hc, hf, k4, k5, k6, x1]) rfl ⟨_, rfl, ⟨A', c', rfl, Sl.keep hr7 (by simp) (fun b' o' hA _ => Below.heap_setCell _ _ _ _ ?_), hlc', fun b' o' hA => ?_⟩, ?_⟩
          · have h1 := hA' b' o' hA
            simp at h1 ⊢
            omega
          · have h1 := hA' b' o' hA
            simp at h1
            omega
          · exact Below.setCell (HB0.out.trans ((HB7.out.drew.trans (hb7.mono (by have := HB7.out.size; simp at this ⊢; omega))).mono HB0.out.size)) (by simp; omega) _
        | true =>
          have HE := Lib.hid (ap_gone Hv.out Hfo.out (by rw [Hk.out]; decide) (by simp at hy0; rintro (h | ⟨h, h3, h4⟩) <;> first | exact hy0 h | exact h3 Hk.out | exact h4 Hk.out) (by rw [Hk.out]; decide) hyg)
          go_wp2_with fail
          rw [HE.out]
          refine bodyPost_ret (v := .tuple #[.agg #[.slice none 0 0], .int .i64 16]) (by simp [results, Tryz.results28, go_sem, *]) rfl ⟨_, rfl, ResC.nil _ _ _, ?_⟩
          exact (Below.setCell (p := ⟨w.heap.size + 1 + 1, 0, none⟩) (HB0.out.trans (HB6.out.mono HB0.out.size)) (show w.heap.size ≤ w.heap.size + 1 + 1 by omega) _).alloc (by simp; omega) _
      | false =>
        cases hyg : (itemF l p.id).gone with
        | false =>
          have HDD := Lib.hid (HD3.out Hk.out hy0 hyg)
          go_wp2_with fail
          have k1 : (w5.alloc (.cells #[.int .i64 (itemF l p.id).kind, vs (itemF l p.id).id, vs (itemF l p.id).par, vs (itemF l p.id).num, vs (itemF l p.id).no, vs (itemF l p.id).so, .bool false] 47)).cell? ⟨w.heap.size + 1, 0, none⟩ = some (.int .i64 p.kind) := by simp [go_sem, *]
          have k2 : (w5.alloc (.cells #[.int .i64 (itemF l p.id).kind, vs (itemF l p.id).id, vs (itemF l p.id).par, vs (itemF l p.id).num, vs (itemF l p.id).no, vs (itemF l p.id).so, .bool false] 47)).cell? ⟨wc.heap.size, 3, none⟩ = some (.func (.func 62) #[] #[]) := by simp [go_sem, *]
          have k3 : (w5.alloc (.cells #[.int .i64 (itemF l p.id).kind, vs (itemF l p.id).id, vs (itemF l p.id).par, vs (itemF l p.id).num, vs (itemF l p.id).no, vs (itemF l p.id).so, .bool false] 47)).blk b = some (.cells (chgCs A l.length c p (findI l p.id)) 94 (0, 0)) := by simp [go_sem, *]
          have k4 : (w5.alloc (.cells #[.int .i64 (itemF l p.id).kind, vs (itemF l p.id).id, vs (itemF l p.id).par, vs (itemF l p.id).num, vs (itemF l p.id).no, vs (itemF l p.id).so, .bool false] 47)).cell? ⟨w.heap.size + 1 + 1, 0, none⟩ = some (.slice none 0 0) := by simp [go_sem, *]
          have k5 : (w5.alloc (.cells #[.int .i64 (itemF l p.id).kind, vs (itemF l p.id).id, vs (itemF l p.id).par, vs (itemF l p.id).num, vs (itemF l p.id).no, vs (itemF l p.id).so, .bool false] 47)).frozen? ⟨w.heap.size + 1 + 1, 0, none⟩ = false := by simp [go_sem, *]
          have k6 : w.heap.size + 1 + 1 < (w5.alloc (.cells #[.int .i64 (itemF l p.id).kind, vs (itemF l p.id).id, vs (itemF l p.id).par, vs (itemF l p.id).num, vs (itemF l p.id).no, vs (itemF l p.id).so, .bool false] 47)).heap.size := by simp; omega
          have k7 := HB6.out.alloc HB6.out.size (.cells #[.int .i64 (itemF l p.id).kind, vs (itemF l p.id).id, vs (itemF l p.id).par, vs (itemF l p.id).num, vs (itemF l p.id).no, vs (itemF l p.id).so, .bool false] 47)
          generalize (w5.alloc (.cells #[.int .i64 (itemF l p.id).kind, vs (itemF l p.id).id, vs (itemF l p.id).par, vs (itemF l p.id).num, vs (itemF l p.id).no, vs (itemF l p.id).so, .bool false] 47)) = w6 at *
          have HB7 := Lib.hid k7; clear k7
          have q1 : w.heap.size + 1 < w6.heap.size := by omega
          have n1 : ¬ b = w.heap.size + 1 + 1 := by omega
          have n2 : ¬ w.heap.size + 1 + 1 = b := by omega
          have n3 : ¬ wc.heap.size = w.heap.size + 1 + 1 := by omega
          have n4 : ¬ w.heap.size + 1 + 1 = wc.heap.size := by omega
          have q2 : b < w6.heap.size := lt_of_heap k3
          have q3 : wc.heap.size < w6.heap.size := World.block_lt_of_cell? w6 _ k2
          go_region_held3 (fun W => W.cell? ⟨w.heap.size + 1, 0, none⟩ = some (.int .i64 p.kind) ∧ W.cell? ⟨wc.heap.size, 3, none⟩ = some (.func (.func 62) #[] #[]) ∧ W.blk b = some (.cells (chgCs A l.length c p (findI l p.id)) 94 (0, 0))) ((go_split_ands; refine ⟨?_, ?_, ?_⟩ <;> (first | go_keep | (simp [go_sem, *]; done)))) (first | (go_at_call 62; refine (HDD.out _ ((HB0.out.trans (HB7.out.mono HB0.out.size)).drew)).mono ?_; rintro e w7 ⟨v, rfl, ⟨A', c', rfl, hr7, hlc', hA'⟩, hb7⟩; obtain ⟨hc, hf⟩ := bcell hb7; have hblk := bblk hb7; simp at hc hf hblk; have hz7 := hb7.size; simp at hz7; have x1 : w.heap.size + 1 + 1 < w7.heap.size := (by omega)))
          go_wp2_with fail
          refine bodyPost_ret (v := .tuple #[.agg #[.slice A' (applyF l p).1.length c'], .int .i64 (applyF l p).2]) (by simp [results, Tryz.results28, go_sem, hc, hf, k4, k5, k6, x1]) rfl ⟨_, rfl, ⟨A', c', rfl, Sl.keep hr7 (by simp) (fun b' o' hA _ => Below.heap_setCell _ _ _ _ ?_), hlc', fun b' o' hA => ?_⟩, ?_⟩
          · have h1 := hA' b' o' hA
            simp at h1 ⊢
            omega
          · have h1 := hA' b' o' hA
            simp at h1
            omega
          · exact Below.setCell (HB0.out.trans ((HB7.out.drew.trans (hb7.mono (by have := HB7.out.size; simp at this ⊢; omega))).mono HB0.out.size)) (by simp; omega) _
        | true =>
          have HE := Lib.hid (ap_gone Hv.out Hfo.out (by rw [Hk.out]; decide) (by simp at hy0 hy1; rintro (h | ⟨h, h3, h4⟩) <;> first | exact hy0 h | exact hy1 h | exact h3 Hk.out | exact h4 Hk.out) (by rw [Hk.out]; decide) hyg)
          go_wp2_with fail
          rw [HE.out]
          refine bodyPost_ret (v := .tuple #[.agg #[.slice none 0 0], .int .i64 16]) (by simp [results, Tryz.results28, go_sem, *]) rfl ⟨_, rfl, ResC.nil _ _ _, ?_⟩
          exact (Below.setCell (p := ⟨w.heap.size + 1 + 1, 0, none⟩) (HB0.out.trans (HB6.out.mono HB0.out.size)) (show w.heap.size ≤ w.heap.size + 1 + 1 by omega) _).alloc (by simp; omega) _
  · have hk1 : (p.kind != 1) = true := by simp [hk]
    have hk3 : (p.kind != 3) = true := by simp [hk]
    have hk4 : (p.kind != 4) = false := by simp [hk]
    have hk6 : (p.kind != 6) = true := by simp [hk]
    have hk6e : (p.kind == 6) = false := by simp [hk]
    have hkn : p.kind.toNat = 4 := by simp [hk]
    have Hk := Lib.hid hk; clear hk
    go_wp2_with fail
    refine (item_any l A c p _ p.id _ ((HR.out.below HB0.out).below (HBW.out.alloc HBW.out.size _)) (by omega)).mono ?_
    rintro e w5 ⟨rfl, hb5⟩
    have hsz5 := hb5.size
    simp at hsz5
    have hb6 := HBW.out.trans (((Below.refl wc.heap.size wc).alloc (Nat.le_refl _) _).trans (hb5.mono (by simp)) |>.mono HBW.out.size)
    obtain ⟨hc5, hf5⟩ := bcell hb5
    have hblk5 := bblk hb5
    have HB6 := Lib.hid hb6; clear hb6
    have HB5 := Lib.hid hb5; clear hb5
    have ht : w5.cell? ⟨wc.heap.size, 4, none⟩ = some (.func (.func 63) #[] #[]) := (hc5 _ _ (by simp)).trans (by simp [go_sem])
    have hx : w5.blk b = some (.cells (chgCs A l.length c p (findI l p.id)) 94 (0, 0)) := (hblk5 _ (by simp; omega)).trans ((blk_alloc_lt zb).trans hbc')
    have hz1 : w5.cell? ⟨w.heap.size + 1, 0, none⟩ = some (.int .i64 p.kind) := (hc5 _ _ (by simp; omega)).trans (by simp [go_sem, hc, z1, z2, z3])
    have hz2 : w5.frozen? ⟨w.heap.size + 1 + 1, 0, none⟩ = false := (hf5 _ _ (by simp; omega)).trans (by simp [go_sem, hf, z1, z2, z3])
    have hz3 : w5.cell? ⟨w.heap.size + 1 + 1, 0, none⟩ = some (.slice none 0 0) := (hc5 _ _ (by simp; omega)).trans (by simp [go_sem, hc, z1, z2, z3])
    clear hc hf hblk hc5 hf5 hblk5
    have y1 : w.heap.size + 1 < w5.heap.size := by omega
    have y2 : w.heap.size + 1 + 1 < w5.heap.size := by omega
    have y3 : wc.heap.size < w5.heap.size := by omega
    have y4 : b < w5.heap.size := by omega
    cases hy0 : ((itemF l p.id).kind == 0) with
    | true =>
      have HE := Lib.hid (ap_none Hv.out Hfo.out (by rw [Hk.out]; decide) (.inl (by simpa using hy0)))
      go_wp2_with fail
      rw [HE.out]
      refine bodyPost_ret (v := .tuple #[.agg #[.slice none 0 0], .int .i64 11]) (by simp [results, Tryz.results28, go_sem, *]) rfl ⟨_, rfl, ResC.nil _ _ _, ?_⟩
      exact (Below.setCell (p := ⟨w.heap.size + 1 + 1, 0, none⟩) (HB0.out.trans (HB6.out.mono HB0.out.size)) (show w.heap.size ≤ w.heap.size + 1 + 1 by omega) _).alloc (by simp; omega) _
    | false =>
      cases hy1 : ((itemF l p.id).kind == 1) with
      | true =>
        cases hyg : (itemF l p.id).gone with
        | false =>
          have HDD := Lib.hid (HD4.out Hk.out hy0 hyg)
          go_wp2_with fail
          have k1 : (w5.alloc (.cells #[.int .i64 (itemF l p.id).kind, vs (itemF l p.id).id, vs (itemF l p.id).par, vs (itemF l p.id).num, vs (itemF l p.id).no, vs (itemF l p.id).so, .bool false] 47)).cell? ⟨w.heap.size + 1, 0, none⟩ = some (.int .i64 p.kind) := by simp [go_sem, *]
          have k2 : (w5.alloc (.cells #[.int .i64 (itemF l p.id).kind, vs (itemF l p.id).id, vs (itemF l p.id).par, vs (itemF l p.id).num, vs (itemF l p.id).no, vs (itemF l p.id).so, .bool false] 47)).cell? ⟨wc.heap.size, 4, none⟩ = some (.func (.func 63) #[] #[]) := by simp [go_sem, *]
          have k3 : (w5.alloc (.cells #[.int .i64 (itemF l p.id).kind, vs (itemF l p.id).id, vs (itemF l p.id).par, vs (itemF l p.id).num, vs (itemF l p.id).no, vs (itemF l p.id).so, .bool false] 47)).blk b = some (.cells (chgCs A l.length c p (findI l p.id)) 94 (0, 0)) := by simp [go_sem, *]
          have k4 : (w5.alloc (.cells #[.int .i64 (itemF l p.id).kind, vs (itemF l p.id).id, vs (itemF l p.id).par, vs (itemF l p.id).num, vs (itemF l p.id).no, vs (itemF l p.id).so, .bool false] 47)).cell? ⟨w.heap.size + 1 + 1, 0, none⟩ = some (.slice none 0 0) := by simp [go_sem, *]
          have k5 : (w5.alloc (.cells #[.int .i64 (itemF l p.id).kind, vs (itemF l p.id).id, vs (itemF l p.id).par, vs (itemF l p.id).num, vs (itemF l p.id).no, vs (itemF l p.id).so, .bool false] 47)).frozen? ⟨w.heap.size + 1 + 1, 0, none⟩ = false := by simp [go_sem, *]
          have k6 : w.heap.size + 1 + 1 < (w5.alloc (.cells #[.int .i64 (itemF l p.id).kind, vs (itemF l p.id).id, vs (itemF l p.id).par, vs (itemF l p.id).num, vs (itemF l p.id).no, vs (itemF l p.id).so, .bool false] 47)).heap.size := by simp; omega
          have k7 := HB6.out.alloc HB6.out.size (.cells #[.int .i64 (itemF l p.id).kind, vs (itemF l p.id).id, vs (itemF l p.id).par, vs (itemF l p.id).num, vs (itemF l p.id).no, vs (itemF l p.id).so, .bool false] 47)
          generalize (w5.alloc (.cells #[.int .i64 (itemF l p.id).kind, vs (itemF l p.id).id, vs (itemF l p.id).par, vs (itemF l p.id).num, vs (itemF l p.id).no, vs (itemF l p.id).so, .bool false] 47)) = w6 at *
          have HB7 := Lib.hid k7; clear k7
          have q1 : w.heap.size + 1 < w6.heap.size := by omega
          have n1 : ¬ b = w.heap.size + 1 + 1 := by omega
          have n2 : ¬ w.heap.size + 1 + 1 = b := by omega
          have n3 : ¬ wc.heap.size = w.heap.size + 1 + 1 := by omega
          have n4 : ¬ w.heap.size + 1 + 1 = wc.heap.size := by omega
          have q2 : b < w6.heap.size := lt_of_heap k3
          have q3 : wc.heap.size < w6.heap.size := World.block_lt_of_cell? w6 _ k2
          go_region_held3 (fun W => W.cell? ⟨w.heap.size + 1, 0, none⟩ = some (.int .i64 p.kind) ∧ W.cell? ⟨wc.heap.size, 4, none⟩ = some (.func (.func 63) #[] #[]) ∧ W.blk b = some (.cells (chgCs A l.length c p (findI l p.id)) 94 (0, 0))) ((go_split_ands; refine ⟨?_, ?_, ?_⟩ <;> (first | go_keep | (simp [go_sem, *]; done)))) (first | (go_at_call 63; refine (HDD.out _ ((HB0.out.trans (HB7.out.mono HB0.out.size)).drew)).mono ?_; rintro e w7 ⟨v, rfl, ⟨A', c', rfl, hr7, hlc', hA'⟩, hb7⟩; obtain ⟨hc, hf⟩ := bcell hb7; have hblk := bblk hb7; simp at hc hf hblk; have hz7 := hb7.size; simp at hz7; have x1 : w.heap.size + 1 + 1 < w7.heap.size := (by omega)))
          go_wp2_with fail
          refine bodyPost_ret (v := .tuple #[.agg #[.slice A' (applyF l p).1.length c'], .int .i64 (applyF l p).2]) (by simp [results, Tryz.results28, go_sem, hc, hf, k4, k5, k6, x1]) rfl ⟨_, rfl, ⟨A', c', rfl, Sl.keep hr7 (by simp) (fun b' o' hA _ => Below.heap_setCell _ _ _ _ ?_), hlc', fun b' o' hA => ?_⟩, ?_⟩
          · have h1 := hA' b' o' hA
            simp at h1 ⊢
            omega
          · have h1 := hA' b' o' hA
            simp at h1
            omega
          · exact Below.setCell (HB0.out.trans ((HB7.out.drew.trans (hb7.mono (by have := HB7.out.size; simp at this ⊢; omega))).mono HB0.out.size)) (by simp; omega) _
        | true =>
          have HE := Lib.hid (ap_gone Hv.out Hfo.out (by rw [Hk.out]; decide) (by simp at hy0; rintro (h | ⟨h, h3, h4⟩) <;> first | exact hy0 h | exact h3 Hk.out | exact h4 Hk.out) (by rw [Hk.out]; decide) hyg)
          go_wp2_with fail
          rw [HE.out]
          refine bodyPost_ret (v := .tuple #[.agg #[.slice none 0 0], .int .i64 16]) (by simp [results, Tryz.results28, go_sem, *]) rfl ⟨_, rfl, ResC.nil _ _ _, ?_⟩
          exact (Below.setCell (p := ⟨w.heap.size + 1 + 1, 0, none⟩) (HB0.out.trans (HB6.out.mono HB0.out.size)) (show w.heap.size ≤ w.heap.size + 1 + 1 by omega) _).alloc (by simp; omega) _
      | false =>
        cases hyg : (itemF l p.id).gone with
        | false =>
          have HDD := Lib.hid (HD4.out Hk.out hy0 hyg)
          go_wp2_with fail
          have k1 : (w5.alloc (.cells #[.int .i64 (itemF l p.id).kind, vs (itemF l p.id).id, vs (itemF l p.id).par, vs (itemF l p.id).num, vs (itemF l p.id).no, vs (itemF l p.id).so, .bool false] 47)).cell? ⟨w.heap.size + 1, 0, none⟩ = some (.int .i64 p.kind) := by simp [go_sem, *]
          have k2 : (w5.alloc (.cells #[.int .i64 (itemF l p.id).kind, vs (itemF l p.id).id, vs (itemF l p.id).par, vs (itemF l p.id).num, vs (itemF l p.id).no, vs (itemF l p.id).so, .bool false] 47)).cell? ⟨wc.heap.size, 4, none⟩ = some (.func (.func 63) #[] #[]) := by simp [go_sem, *]
          have k3 : (w5.alloc (.cells #[.int .i64 (itemF l p.id).kind, vs (itemF l p.id).id, vs (itemF l p.id).par, vs (itemF l p.id).num, vs (itemF l p.id).no, vs (itemF l p.id).so, .bool false] 47)).blk b = some (.cells (chgCs A l.length c p (findI l p.id)) 94 (0, 0)) := by simp [go_sem, *]
          have k4 : (w5.alloc (.cells #[.int .i64 (itemF l p.id).kind, vs (itemF l p.id).id, vs (itemF l p.id).par, vs (itemF l p.id).num, vs (itemF l p.id).no, vs (itemF l p.id).so, .bool false] 47)).cell? ⟨w.heap.size + 1 + 1, 0, none⟩ = some (.slice none 0 0) := by simp [go_sem, *]
          have k5 : (w5.alloc (.cells #[.int .i64 (itemF l p.id).kind, vs (itemF l p.id).id, vs (itemF l p.id).par, vs (itemF l p.id).num, vs (itemF l p.id).no, vs (itemF l p.id).so, .bool false] 47)).frozen? ⟨w.heap.size + 1 + 1, 0, none⟩ = false := by simp [go_sem, *]
          have k6 : w.heap.size + 1 + 1 < (w5.alloc (.cells #[.int .i64 (itemF l p.id).kind, vs (itemF l p.id).id, vs (itemF l p.id).par, vs (itemF l p.id).num, vs (itemF l p.id).no, vs (itemF l p.id).so, .bool false] 47)).heap.size := by simp; omega
          have k7 := HB6.out.alloc HB6.out.size (.cells #[.int .i64 (itemF l p.id).kind, vs (itemF l p.id).id, vs (itemF l p.id).par, vs (itemF l p.id).num, vs (itemF l p.id).no, vs (itemF l p.id).so, .bool false] 47)
          generalize (w5.alloc (.cells #[.int .i64 (itemF l p.id).kind, vs (itemF l p.id).id, vs (itemF l p.id).par, vs (itemF l p.id).num, vs (itemF l p.id).no, vs (itemF l p.id).so, .bool false] 47)) = w6 at *
          have HB7 := Lib.hid k7; clear k7
          have q1 : w.heap.size + 1 < w6.heap.size := by omega
          have n1 : ¬ b = w.heap.size + 1 + 1 := by omega
          have n2 : ¬ w.heap.size + 1 + 1 = b := by omega
          have n3 : ¬ wc.heap.size = w.heap.size + 1 + 1 := by omega
          have n4 : ¬ w.heap.size + 1 + 1 = wc.heap.size := by omega
          have q2 : b < w6.heap.size := lt_of_heap k3
          have q3 : wc.heap.size < w6.heap.size := World.block_lt_of_cell? w6 _ k2
          go_region_held3 (fun W => W.cell? ⟨w.heap.size + 1, 0, none⟩ = some (.int .i64 p.kind) ∧ W.cell? ⟨wc.heap.size, 4, none⟩ = some (.func (.func 63) #[] #[]) ∧ W.blk b = some (.cells (chgCs A l.length c p (findI l p.id)) 94 (0, 0))) ((go_split_ands; refine ⟨?_, ?_, ?_⟩ <;> (first | go_keep | (simp [go_sem, *]; done)))) (first | (go_at_call 63; refine (HDD.out _ ((HB0.out.trans (HB7.out.mono HB0.out.size)).drew)).mono ?_; rintro e w7 ⟨v, rfl, ⟨A', c', rfl, hr7, hlc', hA'⟩, hb7⟩; obtain ⟨hc, hf⟩ := bcell hb7; have hblk := bblk hb7; simp at hc hf hblk; have hz7 := hb7.size; simp at hz7; have x1 : w.heap.size + 1 + 1 < w7.heap.size := (by omega)))
          go_wp2_with fail
          refine bodyPost_ret (v := .tuple #[.agg #[.slice A' (applyF l p).1.length c'], .int .i64 (applyF l p).2]) (by simp [results, Tryz.results28, go_sem, hc, hf, k4, k5, k6, x1]) rfl ⟨_, rfl, ⟨A', c', rfl, Sl.keep hr7 (by simp) (fun b' o' hA _ => Below.heap_setCell _ _ _ _ ?_), hlc', fun b' o' hA => ?_⟩, ?_⟩
          · have h1 := hA' b' o' hA
            simp at h1 ⊢
            omega
          · have h1 := hA' b' o' hA
            simp at h1
            omega
          · exact Below.setCell (HB0.out.trans ((HB7.out.drew.trans (hb7.mono (by have := HB7.out.size; simp at this ⊢; omega))).mono HB0.out.size)) (by simp; omega) _
        | true =>
          have HE := Lib.hid (ap_gone Hv.out Hfo.out (by rw [Hk.out]; decide) (by simp at hy0 hy1; rintro (h | ⟨h, h3, h4⟩) <;> first | exact hy0 h | exact hy1 h | exact h3 Hk.out | exact h4 Hk.out) (by rw [Hk.out]; decide) hyg)
          go_wp2_with fail
          rw [HE.out]
          refine bodyPost_ret (v := .tuple #[.agg #[.slice none 0 0], .int .i64 16]) (by simp [results, Tryz.results28, go_sem, *]) rfl ⟨_, rfl, ResC.nil _ _ _, ?_⟩
          exact (Below.setCell (p := ⟨w.heap.size + 1 + 1, 0, none⟩) (HB0.out.trans (HB6.out.mono HB0.out.size)) (show w.heap.size ≤ w.heap.size + 1 + 1 by omega) _).alloc (by simp; omega) _
  · have hk1 : (p.kind != 1) = true := by simp [hk]
    have hk3 : (p.kind != 3) = true := by simp [hk]
    have hk4 : (p.kind != 4) = true := by simp [hk]
    have hk6 : (p.kind != 6) = true := by simp [hk]
    have hk6e : (p.kind == 6) = false := by simp [hk]
    have hkn : p.kind.toNat = 5 := by simp [hk]
    have Hk := Lib.hid hk; clear hk
    go_wp2_with fail
    refine (item_any l A c p _ p.id _ ((HR.out.below HB0.out).below (HBW.out.alloc HBW.out.size _)) (by omega)).mono ?_
    rintro e w5 ⟨rfl, hb5⟩
    have hsz5 := hb5.size
    simp at hsz5
    have hb6 := HBW.out.trans (((Below.refl wc.heap.size wc).alloc (Nat.le_refl _) _).trans (hb5.mono (by simp)) |>.mono HBW.out.size)
    obtain ⟨hc5, hf5⟩ := bcell hb5
    have hblk5 := bblk hb5
    have HB6 := Lib.hid hb6; clear hb6
    have HB5 := Lib.hid hb5; clear hb5
    have ht : w5.cell? ⟨wc.heap.size, 5, none⟩ = some (.func (.func 64) #[] #[]) := (hc5 _ _ (by simp)).trans (by simp [go_sem])
    have hx : w5.blk b = some (.cells (chgCs A l.length c p (findI l p.id)) 94 (0, 0)) := (hblk5 _ (by simp; omega)).trans ((blk_alloc_lt zb).trans hbc')
    have hz1 : w5.cell? ⟨w.heap.size + 1, 0, none⟩ = some (.int .i64 p.kind) := (hc5 _ _ (by simp; omega)).trans (by simp [go_sem, hc, z1, z2, z3])
    have hz2 : w5.frozen? ⟨w.heap.size + 1 + 1, 0, none⟩ = false := (hf5 _ _ (by simp; omega)).trans (by simp [go_sem, hf, z1, z2, z3])
    have hz3 : w5.cell? ⟨w.heap.size + 1 + 1, 0, none⟩ = some (.slice none 0 0) := (hc5 _ _ (by simp; omega)).trans (by simp [go_sem, hc, z1, z2, z3])
    clear hc hf hblk hc5 hf5 hblk5
    have y1 : w.heap.size + 1 < w5.heap.size := by omega
    have y2 : w.heap.size + 1 + 1 < w5.heap.size := by omega
    have y3 : wc.heap.size < w5.heap.size := by omega
    have y4 : b < w5.heap.size := by omega
    cases hy0 : ((itemF l p.id).kind == 0) with
    | true =>
      have HE := Lib.hid (ap_none Hv.out Hfo.out (by rw [Hk.out]; decide) (.inl (by simpa using hy0)))
      go_wp2_with fail
      rw [HE.out]
      refine bodyPost_ret (v := .tuple #[.agg #[.slice none 0 0], .int .i64 11]) (by simp [results, Tryz.results28, go_sem, *]) rfl ⟨_, rfl, ResC.nil _ _ _, ?_⟩
      exact (Below.setCell (p := ⟨w.heap.size + 1 + 1, 0, none⟩) (HB0.out.trans (HB6.out.mono HB0.out.size)) (show w.heap.size ≤ w.heap.size + 1 + 1 by omega) _).alloc (by simp; omega) _
    | false =>
      cases hy1 : ((itemF l p.id).kind == 1) with
      | true =>
        have HE := Lib.hid (ap_none Hv.out Hfo.out (by rw [Hk.out]; decide) (.inr ⟨by simpa using hy1, by rw [Hk.out]; decide, by rw [Hk.out]; decide⟩))
        go_wp2_with fail
        rw [HE.out]
        refine bodyPost_ret (v := .tuple #[.agg #[.slice none 0 0], .int .i64 11]) (by simp [results, Tryz.results28, go_sem, *]) rfl ⟨_, rfl, ResC.nil _ _ _, ?_⟩
        exact (Below.setCell (p := ⟨w.heap.size + 1 + 1, 0, none⟩) (HB0.out.trans (HB6.out.mono HB0.out.size)) (show w.heap.size ≤ w.heap.size + 1 + 1 by omega) _).alloc (by simp; omega) _
      | false =>
        cases hyg : (itemF l p.id).gone with
        | false =>
          have HDD := Lib.hid (HD5.out Hk.out hy0 hy1 hyg)
          go_wp2_with fail
          have k1 : (w5.alloc (.cells #[.int .i64 (itemF l p.id).kind, vs (itemF l p.id).id, vs (itemF l p.id).par, vs (itemF l p.id).num, vs (itemF l p.id).no, vs (itemF l p.id).so, .bool false] 47)).cell? ⟨w.heap.size + 1, 0, none⟩ = some (.int .i64 p.kind) := by simp [go_sem, *]
          have k2 : (w5.alloc (.cells #[.int .i64 (itemF l p.id).kind, vs (itemF l p.id).id, vs (itemF l p.id).par, vs (itemF l p.id).num, vs (itemF l p.id).no, vs (itemF l p.id).so, .bool false] 47)).cell? ⟨wc.heap.size, 5, none⟩ = some (.func (.func 64) #[] #[]) := by simp [go_sem, *]
          have k3 : (w5.alloc (.cells #[.int .i64 (itemF l p.id).kind, vs (itemF l p.id).id, vs (itemF l p.id).par, vs (itemF l p.id).num, vs (itemF l p.id).no, vs (itemF l p.id).so, .bool false] 47)).blk b = some (.cells (chgCs A l.length c p (findI l p.id)) 94 (0, 0)) := by simp [go_sem, *]
          have k4 : (w5.alloc (.cells #[.int .i64 (itemF l p.id).kind, vs (itemF l p.id).id, vs (itemF l p.id).par, vs (itemF l p.id).num, vs (itemF l p.id).no, vs (itemF l p.id).so, .bool false] 47)).cell? ⟨w.heap.size + 1 + 1, 0, none⟩ = some (.slice none 0 0) := by simp [go_sem, *]
          have k5 : (w5.alloc (.cells #[.int .i64 (itemF l p.id).kind, vs (itemF l p.id).id, vs (itemF l p.id).par, vs (itemF l p.id).num, vs (itemF l p.id).no, vs (itemF l p.id).so, .bool false] 47)).frozen? ⟨w.heap.size + 1 + 1, 0, none⟩ = false := by simp [go_sem, *]
          have k6 : w.heap.size + 1 + 1 < (w5.alloc (.cells #[.int .i64 (itemF l p.id).kind, vs (itemF l p.id).id, vs (itemF l p.id).par, vs (itemF l p.id).num, vs (itemF l p.id).no, vs (itemF l p.id).so, .bool false] 47)).heap.size := by simp; omega
          have k7 := HB6.out.alloc HB6.out.size (.cells #[.int .i64 (itemF l p.id).kind, vs (itemF l p.id).id, vs (itemF l p.id).par, vs (itemF l p.id).num, vs (itemF l p.id).no, vs (itemF l p.id).so, .bool false] 47)
          generalize (w5.alloc (.cells #[.int .i64 (itemF l p.id).kind, vs (itemF l p.id).id, vs (itemF l p.id).par, vs (itemF l p.id).num, vs (itemF l p.id).no, vs (itemF l p.id).so, .bool false] 47)) = w6 at *
          have HB7 := Lib.hid k7; clear k7
          have q1 : w.heap.size + 1 < w6.heap.size := by omega
          have n1 : ¬ b = w.heap.size + 1 + 1 := by omega
          have n2 : ¬ w.heap.size + 1 + 1 = b := by omega
          have n3 : ¬ wc.heap.size = w.heap.size + 1 + 1 := by omega
          have n4 : ¬ w.heap.size + 1 + 1 = wc.heap.size := by omega
          have q2 : b < w6.heap.size := lt_of_heap k3
          have q3 : wc.heap.size < w6.heap.size := World.block_lt_of_cell? w6 _ k2
          go_region_held3 (fun W => W.cell? ⟨w.heap.size + 1, 0, none⟩ = some (.int .i64 p.kind) ∧ W.cell? ⟨wc.heap.size, 5, none⟩ = some (.func (.func 64) #[] #[]) ∧ W.blk b = some (.cells (chgCs A l.length c p (findI l p.id)) 94 (0, 0))) ((go_split_ands; refine ⟨?_, ?_, ?_⟩ <;> (first | go_keep | (simp [go_sem, *]; done)))) (first | (go_at_call 64; refine (HDD.out _ ((HB0.out.trans (HB7.out.mono HB0.out.size)).drew)).mono ?_; rintro e w7 ⟨v, rfl, ⟨A', c', rfl, hr7, hlc', hA'⟩, hb7⟩; obtain ⟨hc, hf⟩ := bcell hb7; have hblk := bblk hb7; simp at hc hf hblk; have hz7 := hb7.size; simp at hz7; have x1 : w.heap.size + 1 + 1 < w7.heap.size := (by omega)))
          go_wp2_with fail
          refine bodyPost_ret (v := .tuple #[.agg #[.slice A' (applyF l p).1.length c'], .int .i64 (applyF l p).2]) (by simp [results, Tryz.results28, go_sem, hc, hf, k4, k5, k6, x1]) rfl ⟨_, rfl, ⟨A', c', rfl, Sl.keep hr7 (by simp) (fun b' o' hA _ => Below.heap_setCell _ _ _ _ ?_), hlc', fun b' o' hA => ?_⟩, ?_⟩
          · have h1 := hA' b' o' hA
            simp at h1 ⊢
            omega
          · have h1 := hA' b' o' hA
            simp at h1
            omega
          · exact Below.setCell (HB0.out.trans ((HB7.out.drew.trans (hb7.mono (by have := HB7.out.size; simp at this ⊢; omega))).mono HB0.out.size)) (by simp; omega) _
        | true =>
          have HE := Lib.hid (ap_gone Hv.out Hfo.out (by rw [Hk.out]; decide) (by simp at hy0 hy1; rintro (h | ⟨h, h3, h4⟩) <;> first | exact hy0 h | exact hy1 h | exact h3 Hk.out | exact h4 Hk.out) (by rw [Hk.out]; decide) hyg)
          go_wp2_with fail
          rw [HE.out]
          refine bodyPost_ret (v := .tuple #[.agg #[.slice none 0 0], .int .i64 16]) (by simp [results, Tryz.results28, go_sem, *]) rfl ⟨_, rfl, ResC.nil _ _ _, ?_⟩
          exact (Below.setCell (p := ⟨w.heap.size + 1 + 1, 0, none⟩) (HB0.out.trans (HB6.out.mono HB0.out.size)) (show w.heap.size ≤ w.heap.size + 1 + 1 by omega) _).alloc (by simp; omega) _
  · have hk1 : (p.kind != 1) = true := by simp [hk]
    have hk3 : (p.kind != 3) = true := by simp [hk]
    have hk4 : (p.kind != 4) = true := by simp [hk]
    have hk6 : (p.kind != 6) = false := by simp [hk]
    have hk6e : (p.kind == 6) = true := by simp [hk]
    have hkn : p.kind.toNat = 6 := by simp [hk]
    have Hk := Lib.hid hk; clear hk
    go_wp2_with fail
    refine (item_any l A c p _ p.id _ ((HR.out.below HB0.out).below (HBW.out.alloc HBW.out.size _)) (by omega)).mono ?_
    rintro e w5 ⟨rfl, hb5⟩
    have hsz5 := hb5.size
    simp at hsz5
    have hb6 := HBW.out.trans (((Below.refl wc.heap.size wc).alloc (Nat.le_refl _) _).trans (hb5.mono (by simp)) |>.mono HBW.out.size)
    obtain ⟨hc5, hf5⟩ := bcell hb5
    have hblk5 := bblk hb5
    have HB6 := Lib.hid hb6; clear hb6
    have HB5 := Lib.hid hb5; clear hb5
    have ht : w5.cell? ⟨wc.heap.size, 6, none⟩ = some (.func (.func 64) #[] #[]) := (hc5 _ _ (by simp)).trans (by simp [go_sem])
    have hx : w5.blk b = some (.cells (chgCs A l.length c p (findI l p.id)) 94 (0, 0)) := (hblk5 _ (by simp; omega)).trans ((blk_alloc_lt zb).trans hbc')
    have hz1 : w5.cell? ⟨w.heap.size + 1, 0, none⟩ = some (.int .i64 p.kind) := (hc5 _ _ (by simp; omega)).trans (by simp [go_sem, hc, z1, z2, z3])
    have hz2 : w5.frozen? ⟨w.heap.size + 1 + 1, 0, none⟩ = false := (hf5 _ _ (by simp; omega)).trans (by simp [go_sem, hf, z1, z2, z3])
    have hz3 : w5.cell? ⟨w.heap.size + 1 + 1, 0, none⟩ = some (.slice none 0 0) := (hc5 _ _ (by simp; omega)).trans (by simp [go_sem, hc, z1, z2, z3])
    clear hc hf hblk hc5 hf5 hblk5
    have y1 : w.heap.size + 1 < w5.heap.size := by omega
    have y2 : w.heap.size + 1 + 1 < w5.heap.size := by omega
    have y3 : wc.heap.size < w5.heap.size := by omega
    have y4 : b < w5.heap.size := by omega
    cases hy0 : ((itemF l p.id).kind == 0) with
    | true =>
      have HE := Lib.hid (ap_none Hv.out Hfo.out (by rw [Hk.out]; decide) (.inl (by simpa using hy0)))
      go_wp2_with fail
      rw [HE.out]
      refine bodyPost_ret (v := .tuple #[.agg #[.slice none 0 0], .int .i64 11]) (by simp [results, Tryz.results28, go_sem, *]) rfl ⟨_, rfl, ResC.nil _ _ _, ?_⟩
      exact (Below.setCell (p := ⟨w.heap.size + 1 + 1, 0, none⟩) (HB0.out.trans (HB6.out.mono HB0.out.size)) (show w.heap.size ≤ w.heap.size + 1 + 1 by omega) _).alloc (by simp; omega) _
    | false =>
      cases hy1 : ((itemF l p.id).kind == 1) with
      | true =>
        have HE := Lib.hid (ap_none Hv.out Hfo.out (by rw [Hk.out]; decide) (.inr ⟨by simpa using hy1, by rw [Hk.out]; decide, by rw [Hk.out]; decide⟩))
        go_wp2_with fail
        rw [HE.out]
        refine bodyPost_ret (v := .tuple #[.agg #[.slice none 0 0], .int .i64 11]) (by simp [results, Tryz.results28, go_sem, *]) rfl ⟨_, rfl, ResC.nil _ _ _, ?_⟩
        exact (Below.setCell (p := ⟨w.heap.size + 1 + 1, 0, none⟩) (HB0.out.trans (HB6.out.mono HB0.out.size)) (show w.heap.size ≤ w.heap.size + 1 + 1 by omega) _).alloc (by simp; omega) _
      | false =>
        cases hyg : (itemF l p.id).gone with
        | false =>
          have HE := Lib.hid (ap_state Hv.out Hfo.out (by rw [Hk.out]; decide) (by simp at hy0 hy1; rintro (h | ⟨h, h3, h4⟩) <;> first | exact hy0 h | exact hy1 h | exact h3 Hk.out | exact h4 Hk.out) Hk.out hyg)
          go_wp2_with fail
          rw [HE.out]
          refine bodyPost_ret (v := .tuple #[.agg #[.slice none 0 0], .int .i64 12]) (by simp [results, Tryz.results28, go_sem, *]) rfl ⟨_, rfl, ResC.nil _ _ _, ?_⟩
          exact (Below.setCell (p := ⟨w.heap.size + 1 + 1, 0, none⟩) (HB0.out.trans (HB6.out.mono HB0.out.size)) (show w.heap.size ≤ w.heap.size + 1 + 1 by omega) _).alloc (by simp; omega) _
        | true =>
          have HDD := Lib.hid (HD6.out Hk.out hy0 hy1 hyg)
          go_wp2_with fail
          have k1 : (w5.alloc (.cells #[.int .i64 (itemF l p.id).kind, vs (itemF l p.id).id, vs (itemF l p.id).par, vs (itemF l p.id).num, vs (itemF l p.id).no, vs (itemF l p.id).so, .bool true] 47)).cell? ⟨w.heap.size + 1, 0, none⟩ = some (.int .i64 p.kind) := by simp [go_sem, *]
          have k2 : (w5.alloc (.cells #[.int .i64 (itemF l p.id).kind, vs (itemF l p.id).id, vs (itemF l p.id).par, vs (itemF l p.id).num, vs (itemF l p.id).no, vs (itemF l p.id).so, .bool true] 47)).cell? ⟨wc.heap.size, 6, none⟩ = some (.func (.func 64) #[] #[]) := by simp [go_sem, *]
          have k3 : (w5.alloc (.cells #[.int .i64 (itemF l p.id).kind, vs (itemF l p.id).id, vs (itemF l p.id).par, vs (itemF l p.id).num, vs (itemF l p.id).no, vs (itemF l p.id).so, .bool true] 47)).blk b = some (.cells (chgCs A l.length c p (findI l p.id)) 94 (0, 0)) := by simp [go_sem, *]
          have k4 : (w5.alloc (.cells #[.int .i64 (itemF l p.id).kind, vs (itemF l p.id).id, vs (itemF l p.id).par, vs (itemF l p.id).num, vs (itemF l p.id).no, vs (itemF l p.id).so, .bool true] 47)).cell? ⟨w.heap.size + 1 + 1, 0, none⟩ = some (.slice none 0 0) := by simp [go_sem, *]
          have k5 : (w5.alloc (.cells #[.int .i64 (itemF l p.id).kind, vs (itemF l p.id).id, vs (itemF l p.id).par, vs (itemF l p.id).num, vs (itemF l p.id).no, vs (itemF l p.id).so, .bool true] 47)).frozen? ⟨w.heap.size + 1 + 1, 0, none⟩ = false := by simp [go_sem, *]
          have k6 : w.heap.size + 1 + 1 < (w5.alloc (.cells #[.int .i64 (itemF l p.id).kind, vs (itemF l p.id).id, vs (itemF l p.id).par, vs (itemF l p.id).num, vs (itemF l p.id).no, vs (itemF l p.id).so, .bool true] 47)).heap.size := by simp; omega
          have k7 := HB6.out.alloc HB6.out.size (.cells #[.int .i64 (itemF l p.id).kind, vs (itemF l p.id).id, vs (itemF l p.id).par, vs (itemF l p.id).num, vs (itemF l p.id).no, vs (itemF l p.id).so, .bool true] 47)
          generalize (w5.alloc (.cells #[.int .i64 (itemF l p.id).kind, vs (itemF l p.id).id, vs (itemF l p.id).par, vs (itemF l p.id).num, vs (itemF l p.id).no, vs (itemF l p.id).so, .bool true] 47)) = w6 at *
          have HB7 := Lib.hid k7; clear k7
          have q1 : w.heap.size + 1 < w6.heap.size := by omega
          have n1 : ¬ b = w.heap.size + 1 + 1 := by omega
          have n2 : ¬ w.heap.size + 1 + 1 = b := by omega
          have n3 : ¬ wc.heap.size = w.heap.size + 1 + 1 := by omega
          have n4 : ¬ w.heap.size + 1 + 1 = wc.heap.size := by omega
          have q2 : b < w6.heap.size := lt_of_heap k3
          have q3 : wc.heap.size < w6.heap.size := World.block_lt_of_cell? w6 _ k2
          go_region_held3 (fun W => W.cell? ⟨w.heap.size + 1, 0, none⟩ = some (.int .i64 p.kind) ∧ W.cell? ⟨wc.heap.size, 6, none⟩ = some (.func (.func 64) #[] #[]) ∧ W.blk b = some (.cells (chgCs A l.length c p (findI l p.id)) 94 (0, 0))) ((go_split_ands; refine ⟨?_, ?_, ?_⟩ <;> (first | go_keep | (simp [go_sem, *]; done)))) (first | (go_at_call 64; refine (HDD.out _ ((HB0.out.trans (HB7.out.mono HB0.out.size)).drew)).mono ?_; rintro e w7 ⟨v, rfl, ⟨A', c', rfl, hr7, hlc', hA'⟩, hb7⟩; obtain ⟨hc, hf⟩ := bcell hb7; have hblk := bblk hb7; simp at hc hf hblk; have hz7 := hb7.size; simp at hz7; have x1 : w.heap.size + 1 + 1 < w7.heap.size := (by omega)))
          go_wp2_with fail
          refine bodyPost_ret (v := .tuple #[.agg #[.slice A' (applyF l p).1.length c'], .int .i64 (applyF l p).2]) (by simp [results, Tryz.results28, go_sem, hc, hf, k4, k5, k6, x1]) rfl ⟨_, rfl, ⟨A', c', rfl, Sl.keep hr7 (by simp) (fun b' o' hA _ => Below.heap_setCell _ _ _ _ ?_), hlc', fun b' o' hA => ?_⟩, ?_⟩
          · have h1 := hA' b' o' hA
            simp at h1 ⊢
            omega
          · have h1 := hA' b' o' hA
            simp at h1
            omega
          · exact Below.setCell (HB0.out.trans ((HB7.out.drew.trans (hb7.mono (by have := HB7.out.size; simp at this ⊢; omega))).mono HB0.out.size)) (by simp; omega) _
  · have hk1 : (p.kind != 1) = true := by simp [hk]
    have hk3 : (p.kind != 3) = true := by simp [hk]
    have hk4 : (p.kind != 4) = true := by simp [hk]
    have hk6 : (p.kind != 6) = true := by simp [hk]
    have hk6e : (p.kind == 6) = false := by simp [hk]
    have hkn : p.kind.toNat = 7 := by simp [hk]
    have Hk := Lib.hid hk; clear hk
    go_wp2_with fail
    refine (item_any l A c p _ p.id _ ((HR.out.below HB0.out).below (HBW.out.alloc HBW.out.size _)) (by omega)).mono ?_
    rintro e w5 ⟨rfl, hb5⟩
    have hsz5 := hb5.size
    simp at hsz5
    have hb6 := HBW.out.trans (((Below.refl wc.heap.size wc).alloc (Nat.le_refl _) _).trans (hb5.mono (by simp)) |>.mono HBW.out.size)
    obtain ⟨hc5, hf5⟩ := bcell hb5
    have hblk5 := bblk hb5
    have HB6 := Lib.hid hb6; clear hb6
    have HB5 := Lib.hid hb5; clear hb5
    have ht : w5.cell? ⟨wc.heap.size, 7, none⟩ = some (.func (.func 65) #[] #[]) := (hc5 _ _ (by simp)).trans (by simp [go_sem])
    have hx : w5.blk b = some (.cells (chgCs A l.length c p (findI l p.id)) 94 (0, 0)) := (hblk5 _ (by simp; omega)).trans ((blk_alloc_lt zb).trans hbc')
    have hz1 : w5.cell? ⟨w.heap.size + 1, 0, none⟩ = some (.int .i64 p.kind) := (hc5 _ _ (by simp; omega)).trans (by simp [go_sem, hc, z1, z2, z3])
    have hz2 : w5.frozen? ⟨w.heap.size + 1 + 1, 0, none⟩ = false := (hf5 _ _ (by simp; omega)).trans (by simp [go_sem, hf, z1, z2, z3])
    have hz3 : w5.cell? ⟨w.heap.size + 1 + 1, 0, none⟩ = some (.slice none 0 0) := (hc5 _ _ (by simp; omega)).trans (by simp [go_sem, hc, z1, z2, z3])
    clear hc hf hblk hc5 hf5 hblk5
    have y1 : w.heap.size + 1 < w5.heap.size := by omega
    have y2 : w.heap.size + 1 + 1 < w5.heap.size := by omega
    have y3 : wc.heap.size < w5.heap.size := by omega
    have y4 : b < w5.heap.size := by omega
    cases hy0 : ((itemF l p.id).kind == 0) with
    | true =>
      have HE := Lib.hid (ap_none Hv.out Hfo.out (by rw [Hk.out]; decide) (.inl (by simpa using hy0)))
      go_wp2_with fail
      rw [HE.out]
      refine bodyPost_ret (v := .tuple #[.agg #[.slice none 0 0], .int .i64 11]) (by simp [results, Tryz.results28, go_sem, *]) rfl ⟨_, rfl, ResC.nil _ _ _, ?_⟩
      exact (Below.setCell (p := ⟨w.heap.size + 1 + 1, 0, none⟩) (HB0.out.trans (HB6.out.mono HB0.out.size)) (show w.heap.size ≤ w.heap.size + 1 + 1 by omega) _).alloc (by simp; omega) _
    | false =>
      cases hy1 : ((itemF l p.id).kind == 1) with
      | true =>
        have HE := Lib.hid (ap_none Hv.out Hfo.out (by rw [Hk.out]; decide) (.inr ⟨by simpa using hy1, by rw [Hk.out]; decide, by rw [Hk.out]; decide⟩))
        go_wp2_with fail
        rw [HE.out]
        refine bodyPost_ret (v := .tuple #[.agg #[.slice none 0 0], .int .i64 11]) (by simp [results, Tryz.results28, go_sem, *]) rfl ⟨_, rfl, ResC.nil _ _ _, ?_⟩
        exact (Below.setCell (p := ⟨w.heap.size + 1 + 1, 0, none⟩) (HB0.out.trans (HB6.out.mono HB0.out.size)) (show w.heap.size ≤ w.heap.size + 1 + 1 by omega) _).alloc (by simp; omega) _
      | false =>
        cases hyg : (itemF l p.id).gone with
        | false =>
          have HDD := Lib.hid (HD7.out Hk.out hy0 hy1 hyg)
          go_wp2_with fail
          have k1 : (w5.alloc (.cells #[.int .i64 (itemF l p.id).kind, vs (itemF l p.id).id, vs (itemF l p.id).par, vs (itemF l p.id).num, vs (itemF l p.id).no, vs (itemF l p.id).so, .bool false] 47)).cell? ⟨w.heap.size + 1, 0, none⟩ = some (.int .i64 p.kind) := by simp [go_sem, *]
          have k2 : (w5.alloc (.cells #[.int .i64 (itemF l p.id).kind, vs (itemF l p.id).id, vs (itemF l p.id).par, vs (itemF l p.id).num, vs (itemF l p.id).no, vs (itemF l p.id).so, .bool false] 47)).cell? ⟨wc.heap.size, 7, none⟩ = some (.func (.func 65) #[] #[]) := by simp [go_sem, *]
          have k3 : (w5.alloc (.cells #[.int .i64 (itemF l p.id).kind, vs (itemF l p.id).id, vs (itemF l p.id).par, vs (itemF l p.id).num, vs (itemF l p.id).no, vs (itemF l p.id).so, .bool false] 47)).blk b = some (.cells (chgCs A l.length c p (findI l p.id)) 94 (0, 0)) := by simp [go_sem, *]
          have k4 : (w5.alloc (.cells #[.int .i64 (itemF l p.id).kind, vs (itemF l p.id).id, vs (itemF l p.id).par, vs (itemF l p.id).num, vs (itemF l p.id).no, vs (itemF l p.id).so, .bool false] 47)).cell? ⟨w.heap.size + 1 + 1, 0, none⟩ = some (.slice none 0 0) := by simp [go_sem, *]
          have k5 : (w5.alloc (.cells #[.int .i64 (itemF l p.id).kind, vs (itemF l p.id).id, vs (itemF l p.id).par, vs (itemF l p.id).num, vs (itemF l p.id).no, vs (itemF l p.id).so, .bool false] 47)).frozen? ⟨w.heap.size + 1 + 1, 0, none⟩ = false := by simp [go_sem, *]
          have k6 : w.heap.size + 1 + 1 < (w5.alloc (.cells #[.int .i64 (itemF l p.id).kind, vs (itemF l p.id).id, vs (itemF l p.id).par, vs (itemF l p.id).num, vs (itemF l p.id).no, vs (itemF l p.id).so, .bool false] 47)).heap.size := by simp; omega
          have k7 := HB6.out.alloc HB6.out.size (.cells #[.int .i64 (itemF l p.id).kind, vs (itemF l p.id).id, vs (itemF l p.id).par, vs (itemF l p.id).num, vs (itemF l p.id).no, vs (itemF l p.id).so, .bool false] 47)
          generalize (w5.alloc (.cells #[.int .i64 (itemF l p.id).kind, vs (itemF l p.id).id, vs (itemF l p.id).par, vs (itemF l p.id).num, vs (itemF l p.id).no, vs (itemF l p.id).so, .bool false] 47)) = w6 at *
          have HB7 := Lib.hid k7; clear k7
          have q1 : w.heap.size + 1 < w6.heap.size := by omega
          have n1 : ¬ b = w.heap.size + 1 + 1 := by omega
          have n2 : ¬ w.heap.size + 1 + 1 = b := by omega
          have n3 : ¬ wc.heap.size = w.heap.size + 1 + 1 := by omega
          have n4 : ¬ w.heap.size + 1 + 1 = wc.heap.size := by omega
          have q2 : b < w6.heap.size := lt_of_heap k3
          have q3 : wc.heap.size < w6.heap.size := World.block_lt_of_cell? w6 _ k2
          go_region_held3 (fun W => W.cell? ⟨w.heap.size + 1, 0, none⟩ = some (.int .i64 p.kind) ∧ W.cell? ⟨wc.heap.size, 7, none⟩ = some (.func (.func 65) #[] #[]) ∧ W.blk b = some (.cells (chgCs A l.length c p (findI l p.id)) 94 (0, 0))) ((go_split_ands; refine ⟨?_, ?_, ?_⟩ <;> (first | go_keep | (simp [go_sem, *]; done)))) (first | (go_at_call 65; refine (HDD.out _ ((HB0.out.trans (HB7.out.mono HB0.out.size)).drew)).mono ?_; rintro e w7 ⟨v, rfl, ⟨A', c', rfl, hr7, hlc', hA'⟩, hb7⟩; obtain ⟨hc, hf⟩ := bcell hb7; have hblk := bblk hb7; simp at hc hf hblk; have hz7 := hb7.size; simp at hz7; have x1 : w.heap.size + 1 + 1 < w7.heap.size := (by omega)))
          go_wp2_with fail
          refine bodyPost_ret (v := .tuple #[.agg #[.slice A' (applyF l p).1.length c'], .int .i64 (applyF l p).2]) (by simp [results, Tryz.results28, go_sem, hc, hf, k4, k5, k6, x1]) rfl ⟨_, rfl, ⟨A', c', rfl, Sl.keep hr7 (by simp) (fun b' o' hA _ => Below.heap_setCell _ _ _ _ ?_), hlc', fun b' o' hA => ?_⟩, ?_⟩
          · have h1 := hA' b' o' hA
            simp at h1 ⊢
            omega
          · have h1 := hA' b' o' hA
            simp at h1
            omega
          · exact Below.setCell (HB0.out.trans ((HB7.out.drew.trans (hb7.mono (by have := HB7.out.size; simp at this ⊢; omega))).mono HB0.out.size)) (by simp; omega) _
        | true =>
          have HE := Lib.hid (ap_gone Hv.out Hfo.out (by rw [Hk.out]; decide) (by simp at hy0 hy1; rintro (h | ⟨h, h3, h4⟩) <;> first | exact hy0 h | exact hy1 h | exact h3 Hk.out | exact h4 Hk.out) (by rw [Hk.out]; decide) hyg)
          go_wp2_with fail
          rw [HE.out]
          refine bodyPost_ret (v := .tuple #[.agg #[.slice none 0 0], .int .i64 16]) (by simp [results, Tryz.results28, go_sem, *]) rfl ⟨_, rfl, ResC.nil _ _ _, ?_⟩
          exact (Below.setCell (p := ⟨w.heap.size + 1 + 1, 0, none⟩) (HB0.out.trans (HB6.out.mono HB0.out.size)) (show w.heap.size ≤ w.heap.size + 1 + 1 by omega) _).alloc (by simp; omega) _
end Go.Proofs.YtecnlfaholmpoaaGreat
