/- patch.change: move. -/
import Derived.Test.YtecnlfaholmpoaaGreatJC8
import Derived.Deep.RegionHeld3
set_option linter.unusedVariables false
set_option linter.unusedSimpArgs false
set_option maxRecDepth 20000
set_option maxHeartbeats 1000000
namespace Go.Proofs.YtecnlfaholmpoaaGreat
open Go.RowKit
theorem RdI.drop {w : World} {b o : Nat} {l : List Item} (h : RdI w (some ⟨b, o, none⟩) l) (k : Nat) : RdI w (some ⟨b, o + k * 7, none⟩) (l.drop k) := by
 intro hne
 obtain ⟨b', o', hA, hlt, hc⟩ := h (by rintro rfl; simp at hne)
 cases hA
 refine ⟨b, o + k * 7, rfl, hlt, fun i x hx j v hv => ?_⟩
 rw [List.getElem?_drop] at hx
 have := hc (k + i) x hx j v hv
 rw [← this]
 congr 2
 rw [Nat.add_mul]
 omega
theorem row_setCell {w : World} {g o : Nat} {cur : Array Value} {t : TypeId} {u : Value} (hh : w.heap[g]? = some (.cells cur t (0, 0))) : (w.setCell ⟨g, o, none⟩ u).heap[g]? = some (.cells (cur.setIfInBounds o u) t (0, 0)) := by
 simp [World.setCell, Array.getElem?_modify, hh]
theorem set_par (x : Item) (r : List Item) (rest : List Value) (par : Str) : (flat (x :: r) ++ rest).toArray.setIfInBounds 2 (vs par) = (flat ({ x with par := par } :: r) ++ rest).toArray := by
 simp [flat, Item.cells]
theorem Below.swap {w w7 : World} {C C' : Array Value} {t : TypeId} {o1 o2 : Obj} {i : Nat} {u : Value} (hb : Below (((w.alloc (.cells C t)).alloc o1).alloc o2).heap.size (((w.alloc (.cells C t)).alloc o1).alloc o2) w7) (hC : C' = C.setIfInBounds i u) :
 Below (((w.alloc (.cells C' t)).alloc o1).alloc o2).heap.size (((w.alloc (.cells C' t)).alloc o1).alloc o2) (w7.setCell ⟨w.heap.size, i, none⟩ u) := by
 have hsz : (((w.alloc (.cells C' t)).alloc o1).alloc o2).heap.size = (((w.alloc (.cells C t)).alloc o1).alloc o2).heap.size := by simp
 refine ⟨hb.os, hb.tape, hb.output, ?_, fun k hk => ?_⟩
 · have := hb.size
   simp at this ⊢
   exact this
 · have h0 := hb.block k (by rw [← hsz]; exact hk)
   by_cases h : k = w.heap.size
   · subst h
     have h1 : (((w.alloc (.cells C t)).alloc o1).alloc o2).heap[w.heap.size]? = some (.cells C t (0, 0)) := heap_old_at (by simp; omega) (heap_old_at (by simp) (heap_new_at rfl))
     have h2 : (((w.alloc (.cells C' t)).alloc o1).alloc o2).heap[w.heap.size]? = some (.cells C' t (0, 0)) := heap_old_at (by simp; omega) (heap_old_at (by simp) (heap_new_at rfl))
     rw [h2, row_setCell (h0.trans h1), hC]
   · rw [Below.heap_setCell _ _ _ _ h, h0]
     by_cases h3 : k = w.heap.size + 1 + 1
     · rw [heap_new_at (by simp [h3]), heap_new_at (by simp [h3])]
     · by_cases h4 : k = w.heap.size + 1
       · rw [heap_old_at (by simp [h4]) (heap_new_at (by simp [h4])), heap_old_at (by simp [h4]) (heap_new_at (by simp [h4]))]
       · have hk2 : k < w.heap.size := by simp at hk; omega
         rw [Below.heap_alloc _ _ _ (by simp; omega), Below.heap_alloc _ _ _ (by simp; omega), Below.heap_alloc _ _ _ hk2, Below.heap_alloc _ _ _ (by simp; omega), Below.heap_alloc _ _ _ (by simp; omega), Below.heap_alloc _ _ _ hk2]
def moveOk (l : List Item) (p : Patch) : Bool :=
 existsF l p.par p.aft && (!(p.par == p.id) && (!(p.aft == p.id) && (p.par.isEmpty || !underB l p.par p.id)))
theorem move_0 (l : List Item) (A : Option Addr) (c : Nat) (p : Patch) (k : Nat) (w : World) (hr : RdI w A l) (hl : l.length ≤ 100000) (hsh : ∀ x ∈ l, x.Short) (he : existsF l p.par p.aft = false) :
 Does 63 l A c p k w ([], 14) := by
 unfold Does
 have HE := fun W h => Lib.hid (exists_any l A c p k W h (by omega))
 have HU := fun W h => Lib.hid (under_any l A c p.par p.id W h (by omega) hsh)
 have HR := Lib.hid hr; clear hr
 have HSH := Lib.hid hsh; clear hsh
 have HE0 := Lib.hid he; clear he
 have hb0 := ((Below.refl w.heap.size w).alloc (Nat.le_refl _) (.cells #[.slice A l.length c, .int .i64 p.kind, vs p.id, vs p.par, vs p.aft, vs p.num, .int .i64 p.item.kind, vs p.item.id, vs p.item.par, vs p.item.num, vs p.item.no, vs p.item.so, .bool p.item.gone, .int .i64 p.lang, vs p.fr, vs p.to, .int .i64 k] 94)).alloc (by simp) (.cells #[.slice none 0 0] 24)
 have hb1 := hb0.alloc (by simp; omega) (.cells #[.int .i64 p.kind, vs p.id, vs p.par, vs p.aft, vs p.num, .int .i64 p.item.kind, vs p.item.id, vs p.item.par, vs p.item.num, vs p.item.no, vs p.item.so, .bool p.item.gone, .int .i64 p.lang, vs p.fr, vs p.to] 49)
 have HB0 := Lib.hid hb1; clear hb0 hb1
 go_enter Tryz.func63, Tryz.ntmps63
 go_wp2_with fail
 refine (HE _ (HR.out.below HB0.out)).out.mono ?_
 rintro e w1 ⟨rfl, hb1⟩
 rw [HE0.out]
 obtain ⟨hc, hf⟩ := bcell hb1
 have hblk := bblk hb1
 have HB1 := Lib.hid hb1; clear hb1
 go_wp2_with fail
 refine bodyPost_ret (v := .tuple #[.agg #[.slice none 0 0], .int .i64 14]) (by simp [results, Tryz.results63, go_sem, hc, hf]) rfl ⟨_, rfl, ResC.nil _ _ _, ?_⟩
 refine Below.setCell (HB0.out.trans (HB1.out.mono HB0.out.size)) ?_ _
 simp
theorem move_1 (l : List Item) (A : Option Addr) (c : Nat) (p : Patch) (k : Nat) (w : World) (hr : RdI w A l) (hl : l.length ≤ 100000) (hsh : ∀ x ∈ l, x.Short) (he : existsF l p.par p.aft = true) (h1 : (p.par == p.id) = true) :
 Does 63 l A c p k w ([], 14) := by
 unfold Does
 have HE := fun W h => Lib.hid (exists_any l A c p k W h (by omega))
 have HU := fun W h => Lib.hid (under_any l A c p.par p.id W h (by omega) hsh)
 have HR := Lib.hid hr; clear hr
 have HSH := Lib.hid hsh; clear hsh
 have HE0 := Lib.hid he; clear he
 have hb0 := ((Below.refl w.heap.size w).alloc (Nat.le_refl _) (.cells #[.slice A l.length c, .int .i64 p.kind, vs p.id, vs p.par, vs p.aft, vs p.num, .int .i64 p.item.kind, vs p.item.id, vs p.item.par, vs p.item.num, vs p.item.no, vs p.item.so, .bool p.item.gone, .int .i64 p.lang, vs p.fr, vs p.to, .int .i64 k] 94)).alloc (by simp) (.cells #[.slice none 0 0] 24)
 have hb1 := hb0.alloc (by simp; omega) (.cells #[.int .i64 p.kind, vs p.id, vs p.par, vs p.aft, vs p.num, .int .i64 p.item.kind, vs p.item.id, vs p.item.par, vs p.item.num, vs p.item.no, vs p.item.so, .bool p.item.gone, .int .i64 p.lang, vs p.fr, vs p.to] 49)
 have HB0 := Lib.hid hb1; clear hb0 hb1
 go_enter Tryz.func63, Tryz.ntmps63
 go_wp2_with fail
 refine (HE _ (HR.out.below HB0.out)).out.mono ?_
 rintro e w1 ⟨rfl, hb1⟩
 rw [HE0.out]
 obtain ⟨hc, hf⟩ := bcell hb1
 have hblk := bblk hb1
 have HB1 := Lib.hid hb1; clear hb1
 go_wp2_with fail
 refine bodyPost_ret (v := .tuple #[.agg #[.slice none 0 0], .int .i64 14]) (by simp [results, Tryz.results63, go_sem, hc, hf]) rfl ⟨_, rfl, ResC.nil _ _ _, ?_⟩
 refine Below.setCell (HB0.out.trans (HB1.out.mono HB0.out.size)) ?_ _
 simp
theorem move_2 (l : List Item) (A : Option Addr) (c : Nat) (p : Patch) (k : Nat) (w : World) (hr : RdI w A l) (hl : l.length ≤ 100000) (hsh : ∀ x ∈ l, x.Short) (he : existsF l p.par p.aft = true) (h1 : (p.par == p.id) = false) (h2 : (p.aft == p.id) = true) :
 Does 63 l A c p k w ([], 14) := by
 unfold Does
 have HE := fun W h => Lib.hid (exists_any l A c p k W h (by omega))
 have HU := fun W h => Lib.hid (under_any l A c p.par p.id W h (by omega) hsh)
 have HR := Lib.hid hr; clear hr
 have HSH := Lib.hid hsh; clear hsh
 have HE0 := Lib.hid he; clear he
 have hb0 := ((Below.refl w.heap.size w).alloc (Nat.le_refl _) (.cells #[.slice A l.length c, .int .i64 p.kind, vs p.id, vs p.par, vs p.aft, vs p.num, .int .i64 p.item.kind, vs p.item.id, vs p.item.par, vs p.item.num, vs p.item.no, vs p.item.so, .bool p.item.gone, .int .i64 p.lang, vs p.fr, vs p.to, .int .i64 k] 94)).alloc (by simp) (.cells #[.slice none 0 0] 24)
 have hb1 := hb0.alloc (by simp; omega) (.cells #[.int .i64 p.kind, vs p.id, vs p.par, vs p.aft, vs p.num, .int .i64 p.item.kind, vs p.item.id, vs p.item.par, vs p.item.num, vs p.item.no, vs p.item.so, .bool p.item.gone, .int .i64 p.lang, vs p.fr, vs p.to] 49)
 have HB0 := Lib.hid hb1; clear hb0 hb1
 go_enter Tryz.func63, Tryz.ntmps63
 go_wp2_with fail
 refine (HE _ (HR.out.below HB0.out)).out.mono ?_
 rintro e w1 ⟨rfl, hb1⟩
 rw [HE0.out]
 obtain ⟨hc, hf⟩ := bcell hb1
 have hblk := bblk hb1
 have HB1 := Lib.hid hb1; clear hb1
 go_wp2_with fail
 refine bodyPost_ret (v := .tuple #[.agg #[.slice none 0 0], .int .i64 14]) (by simp [results, Tryz.results63, go_sem, hc, hf]) rfl ⟨_, rfl, ResC.nil _ _ _, ?_⟩
 refine Below.setCell (HB0.out.trans (HB1.out.mono HB0.out.size)) ?_ _
 simp
theorem move_3 (l : List Item) (A : Option Addr) (c : Nat) (p : Patch) (k : Nat) (w : World) (hr : RdI w A l) (hl : l.length ≤ 100000) (hsh : ∀ x ∈ l, x.Short) (he : existsF l p.par p.aft = true) (h1 : (p.par == p.id) = false) (h2 : (p.aft == p.id) = false) (h3 : p.par.isEmpty = false) (hu : underB l p.par p.id = true) :
 Does 63 l A c p k w ([], 14) := by
 unfold Does
 have HE := fun W h => Lib.hid (exists_any l A c p k W h (by omega))
 have HU := fun W h => Lib.hid (under_any l A c p.par p.id W h (by omega) hsh)
 have HR := Lib.hid hr; clear hr
 have HSH := Lib.hid hsh; clear hsh
 have HE0 := Lib.hid he; clear he
 have hb0 := ((Below.refl w.heap.size w).alloc (Nat.le_refl _) (.cells #[.slice A l.length c, .int .i64 p.kind, vs p.id, vs p.par, vs p.aft, vs p.num, .int .i64 p.item.kind, vs p.item.id, vs p.item.par, vs p.item.num, vs p.item.no, vs p.item.so, .bool p.item.gone, .int .i64 p.lang, vs p.fr, vs p.to, .int .i64 k] 94)).alloc (by simp) (.cells #[.slice none 0 0] 24)
 have hb1 := hb0.alloc (by simp; omega) (.cells #[.int .i64 p.kind, vs p.id, vs p.par, vs p.aft, vs p.num, .int .i64 p.item.kind, vs p.item.id, vs p.item.par, vs p.item.num, vs p.item.no, vs p.item.so, .bool p.item.gone, .int .i64 p.lang, vs p.fr, vs p.to] 49)
 have HB0 := Lib.hid hb1; clear hb0 hb1
 have HU0 := Lib.hid hu; clear hu
 go_enter Tryz.func63, Tryz.ntmps63
 go_wp2_with fail
 refine (HE _ (HR.out.below HB0.out)).out.mono ?_
 rintro e w1 ⟨rfl, hb1⟩
 rw [HE0.out]
 obtain ⟨hc, hf⟩ := bcell hb1
 have hblk := bblk hb1
 have HB1 := Lib.hid hb1; clear hb1
 go_wp2_with fail
 refine (HU _ ((HR.out.below HB0.out).below HB1.out)).out.mono ?_
 rintro e w2 ⟨rfl, hb2⟩
 rw [HU0.out]
 have hb3 := HB1.out.trans (hb2.mono HB1.out.size)
 clear hc hf hblk HB1
 obtain ⟨hc, hf⟩ := bcell hb3
 have hblk := bblk hb3
 have HB1 := Lib.hid hb3; clear hb2 hb3
 go_wp2_with fail
 refine bodyPost_ret (v := .tuple #[.agg #[.slice none 0 0], .int .i64 14]) (by simp [results, Tryz.results63, go_sem, hc, hf]) rfl ⟨_, rfl, ResC.nil _ _ _, ?_⟩
 refine Below.setCell (HB0.out.trans (HB1.out.mono HB0.out.size)) ?_ _
 simp
theorem move_4 (l : List Item) (A : Option Addr) (c : Nat) (p : Patch) (k : Nat) (w : World) (hr : RdI w A l) (hl : l.length ≤ 100000) (hsh : ∀ x ∈ l, x.Short) (he : existsF l p.par p.aft = true) (h1 : (p.par == p.id) = false) (h2 : (p.aft == p.id) = false) (h3 : p.par.isEmpty = true) (n : Nat) (hn : (1 : Int) + (belowL l p.id).length = n) (hkn : k + n ≤ l.length) (hlc : l.length ≤ c) (l2 : List Item) (hl2 : l.take k ++ l.drop (k + n) = l2) (x0 : Item) (r : List Item) (hx0 : (l.drop k).take n = x0 :: r) (hpo : PutOk l2 p.par p.aft) :
 Does 63 l A c p k w (putL l2 ({ x0 with par := p.par } :: r) p.par p.aft, 0) := by
 unfold Does
 have HE := fun W h => Lib.hid (exists_any l A c p k W h (by omega))
 have HU := fun W h => Lib.hid (under_any l A c p.par p.id W h (by omega) hsh)
 have HR := Lib.hid hr; clear hr
 have HSH := Lib.hid hsh; clear hsh
 have HE0 := Lib.hid he; clear he
 have hb0 := ((Below.refl w.heap.size w).alloc (Nat.le_refl _) (.cells #[.slice A l.length c, .int .i64 p.kind, vs p.id, vs p.par, vs p.aft, vs p.num, .int .i64 p.item.kind, vs p.item.id, vs p.item.par, vs p.item.num, vs p.item.no, vs p.item.so, .bool p.item.gone, .int .i64 p.lang, vs p.fr, vs p.to, .int .i64 k] 94)).alloc (by simp) (.cells #[.slice none 0 0] 24)
 have hb1 := hb0.alloc (by simp; omega) (.cells #[.int .i64 p.kind, vs p.id, vs p.par, vs p.aft, vs p.num, .int .i64 p.item.kind, vs p.item.id, vs p.item.par, vs p.item.num, vs p.item.no, vs p.item.so, .bool p.item.gone, .int .i64 p.lang, vs p.fr, vs p.to] 49)
 have HB0 := Lib.hid hb1; clear hb0 hb1
 have hn1 : 1 ≤ n := by omega
 have HN := Lib.hid hn; clear hn
 have HL2 := Lib.hid hl2; clear hl2
 have HX0 := Lib.hid hx0; clear hx0
 have HPO := Lib.hid hpo; clear hpo
 have hne : l ≠ [] := by rintro rfl; simp at hkn; omega
 obtain ⟨b, o, rfl, hbs, _⟩ := HR.out hne
 have HNE := Lib.hid hne; clear hne
 have hck : ¬ c = k := by omega
 have HLC := Lib.hid hlc
 go_enter Tryz.func63, Tryz.ntmps63
 go_wp2_with fail
 refine (HE _ (HR.out.below HB0.out)).out.mono ?_
 rintro e w1 ⟨rfl, hb1⟩
 rw [HE0.out]
 obtain ⟨hc, hf⟩ := bcell hb1
 have hblk := bblk hb1
 have HB1 := Lib.hid hb1; clear hb1
 go_wp2_with fail
 refine (size_any l _ c p k p.id _ ((HR.out.below HB0.out).below HB1.out) (by omega) HSH.out).mono ?_
 rintro e w3 ⟨rfl, hb2⟩
 rw [HN.out]
 have hb3 := HB1.out.trans (hb2.mono HB1.out.size)
 clear hc hf hblk HB1
 obtain ⟨hc, hf⟩ := bcell hb3
 have hblk := bblk hb3
 have HB1 := Lib.hid hb3; clear hb2 hb3
 have hk0 : (0 : Int) ≤ k := by omega
 have hk1 : (k : Int) ≤ (k : Int) + n := by omega
 have hk2 : (k : Int) + n ≤ l.length := by omega
 have hk3 : (l.length : Int) ≤ 100000 := by omega
 have hk4 : (k : Int) + n ≤ c := by omega
 go_wp2_with fail
 have hlb : ((l.drop k).take n).length = n := by simp; omega
 have hrb : RdI w (some ⟨b, o + k * 7, none⟩) ((l.drop k).take n) := (HR.out.drop k).take n
 have hcl := clone_any ((l.drop k).take n) (some ⟨b, o + k * 7, none⟩) (c - k) w3 ((hrb.below HB0.out).below HB1.out) (by omega)
 rw [hlb] at hcl
 have HLB := Lib.hid hlb; clear hlb hrb
 have HCL := Lib.hid hcl; clear hcl
 rw [HX0.out] at HCL HLB
 refine HCL.out.mono ?_
 rintro e w4 ⟨v4, rfl, hown, hb4⟩
 obtain ⟨g, cap4, rest4, rfl, hg, hglt, hh, hlc4, hcm4, hs4⟩ := hown.row (by simp)
 rw [HLB.out]
 have hcg : w4.cell? ⟨g, 2, none⟩ = some (vs x0.par) := by rw [cell_of_row _ _ _ _ _ _ hh]; simp [flat, Item.cells]
 have hfg : w4.frozen? ⟨g, 2, none⟩ = false := frozen_of_row _ _ _ _ _ hh
 have hn0 : (0 : Int) < n := by omega
 have HH := Lib.hid (And.intro hh (And.intro hg (And.intro hlc4 (And.intro hcm4 hs4)))); clear hh hg hlc4 hcm4 hs4 hown
 have HB4 := Lib.hid hb4
 have hb5 := HB1.out.trans (hb4.mono HB1.out.size)
 clear hc hf hblk hb4
 obtain ⟨hc, hf⟩ := bcell hb5
 have hblk := bblk hb5
 have HB5 := Lib.hid hb5; clear hb5
 go_wp2_with fail
 have hb6 := Below.setCell HB5.out (p := ⟨g, 2, none⟩) (Nat.le_trans HB1.out.size HH.out.2.1) (vs p.par)
 have hh6 := row_setCell (o := 2) (u := vs p.par) HH.out.1
 rw [set_par] at hh6
 generalize w4.setCell ⟨g, 2, none⟩ (vs p.par) = w5 at *
 clear hc hf hblk
 obtain ⟨hc, hf⟩ := bcell hb6
 have hblk := bblk hb6
 have HB6 := Lib.hid hb6; clear hb6
 have HH6 := Lib.hid hh6; clear hh6
 have hcx : w5.cell? ⟨w.heap.size, 16, none⟩ = some (.int .i64 k) := by
  rw [hc _ _ (by simp; omega)]
  simp [go_sem]
 have hlc := HLC.out
 have HC5 := fun W h => Lib.hid (clone_any l (some ⟨b, o, none⟩) c W h (by omega))
 have hwrap : IntKind.i64.wrap ((k : Int) + n) = k + n := wrap_small _ (by omega) (by omega)
 have HRD := Lib.hid ((HR.out.below HB0.out).below HB6.out)
 refine wp_region_held_drew (S := fun W => W.cell? ⟨w.heap.size, 16, none⟩ = some (.int .i64 k)) (by kernel_rfl) (by simpa [go_sem] using hcx) (fun hHeld => ?_)
 refine wpAnyH_take (i := 0) (oi := _) (v := .pointer (some ⟨w.heap.size, 0, none⟩)) rfl (by kernel_rfl) (by kernel_rfl) (by kernel_rfl) (fun _ _ _ h => h) (Or.inl ⟨by rfl, ?_⟩) (by assumption) ?_
 · intro w' hSw
   go_simp
 try simp only [Act.put, sia, sc0, scs]
 refine wpAnyH_take (i := 1) (oi := _) (v := .pointer (some ⟨w.heap.size, 0, none⟩)) rfl (by kernel_rfl) (by kernel_rfl) (by kernel_rfl) (fun _ _ _ h => h) (Or.inl ⟨by rfl, ?_⟩) (by assumption) ?_
 · intro w' hSw
   go_simp
 try simp only [Act.put, sia, sc0, scs]
 refine wpAnyH_take (i := 4) (oi := _) (v := .pointer (some ⟨w.heap.size, 16, none⟩)) rfl (by kernel_rfl) (by kernel_rfl) (by kernel_rfl) (fun _ _ _ h => h) (Or.inl ⟨by rfl, ?_⟩) (by assumption) ?_
 · intro w' hSw
   go_simp
 try simp only [Act.put, sia, sc0, scs]
 refine wpAnyH_take (i := 6) (oi := _) (v := .pointer (some ⟨w.heap.size, 16, none⟩)) rfl (by kernel_rfl) (by kernel_rfl) (by kernel_rfl) (fun _ _ _ h => h) (Or.inl ⟨by rfl, ?_⟩) (by assumption) ?_
 · intro w' hSw
   go_simp
 try simp only [Act.put, sia, sc0, scs]
 refine wpAnyH_take (i := 8) (oi := _) (v := .int .i64 n) rfl (by kernel_rfl) (by kernel_rfl) (by kernel_rfl) (fun _ _ _ h => h) (Or.inl ⟨by rfl, ?_⟩) (by assumption) ?_
 · intro w' hSw
   go_simp
 try simp only [Act.put, sia, sc0, scs]
 refine wpAnyH_take (i := 5) (oi := _) (v := .int .i64 k) rfl (by kernel_rfl) (by kernel_rfl) (by kernel_rfl) (fun _ _ _ h => h) (Or.inl ⟨by rfl, ?_⟩) (by assumption) ?_
 · intro w' hSw
   go_simp
 try simp only [Act.put, sia, sc0, scs]
 refine wpAnyH_take (i := 7) (oi := _) (v := .int .i64 k) rfl (by kernel_rfl) (by kernel_rfl) (by kernel_rfl) (fun _ _ _ h => h) (Or.inl ⟨by rfl, ?_⟩) (by assumption) ?_
 · intro w' hSw
   go_simp
 try simp only [Act.put, sia, sc0, scs]
 refine wpAnyH_take (i := 9) (oi := _) (v := .int .i64 (k + n)) rfl (by kernel_rfl) (by kernel_rfl) (by kernel_rfl) (fun _ _ _ h => h) (Or.inl ⟨by rfl, ?_⟩) (by assumption) ?_
 · intro w' hSw
   go_simp
 try simp only [Act.put, sia, sc0, scs]
 refine wpAnyH_ready (rs := [2]) (by kernel_rfl) (by simp) ?_
 refine AllReadyH.cons (o := _) rfl (fun K hK => ?_) AllReadyH.nil
 go_simp
 refine hK.out _ _ ?_ (fun hHeld => ?_)
 · exact hHeld
 clear hK K
 try simp only [Act.put, sia, sc0, scs]
 refine wpAnyH_ready (rs := [3]) (by kernel_rfl) (by simp) ?_
 refine AllReadyH.cons (o := _) rfl (fun K hK => ?_) AllReadyH.nil
 go_simp
 refine (HC5 _ (HRD.out.below (Below.refl _ _).drew)).out.mono ?_
 rintro e w6 ⟨v6, rfl, hown6, hb6⟩
 have hcx6 := (hb6.cell (p := ⟨w.heap.size, 16, none⟩) (by have := HB6.out.size; simp at this ⊢; omega)).trans hHeld
 go_wp2_with fail
 refine hK.out _ _ ?_ (fun hHeld => ?_)
 · exact hcx6
 clear hK K
 try simp only [Act.put, sia, sc0, scs]
 refine wpAnyH_ready (rs := [10]) (by kernel_rfl) (by simp) ?_
 refine AllReadyH.cons (o := _) rfl (fun K hK => ?_) AllReadyH.nil
 go_simp
 have hcapn : k + n ≤ l.length := hkn
 refine (delete_any l k (k + n) _ v6 w6 hown6 (by omega) hkn).mono ?_
 rintro e w7 ⟨v7, rfl, hown7, hv7, hvb7⟩
 rw [HL2.out] at hown7
 have hb56 := HB6.out.drew.trans (hb6.mono (by have := HB6.out.size; simp at this ⊢; omega))
 have hF7 : ∀ y ∈ v6.ownBlock.toList, w5.heap.size ≤ y := by
  rcases hown6.block with h | ⟨g6, h, hg6, _⟩
  · rw [h]; simp
  · rw [h]; simpa using hg6
 have hb7 := VEff.onBelow hb56 hv7 (fun y hy => Nat.le_trans HB6.out.size (hF7 y hy)) hb56.size
 have hg7 : w7.heap[g]? = w5.heap[g]? := by
  have hgl : g < w5.heap.size := lt_of_heap HH6.out
  refine (hv7.block g (Nat.lt_of_lt_of_le hgl hb6.size) (fun hy => ?_)).trans (hb6.block g hgl)
  have := hF7 g hy
  omega
 have hcx7 : w7.cell? ⟨w.heap.size, 16, none⟩ = some (.int .i64 k) := by
  rw [(bcell hb7).1 _ _ (by simp; omega)]
  simp [go_sem]
 obtain ⟨A7, c7, rfl, hr7, -, hA7⟩ := hown7.slice
 refine hK.out _ _ ?_ (fun hHeld => ?_)
 · exact hcx7
 clear hK K
 try simp only [Act.put, sia, sc0, scs]
 refine wpAnyH_take (i := 11) (oi := _) (v := .agg #[.slice A7 l2.length c7]) rfl (by kernel_rfl) (by kernel_rfl) (by kernel_rfl) (fun _ _ _ h => h) (Or.inl ⟨by rfl, ?_⟩) (by assumption) ?_
 · intro w' hSw
   go_simp
 try simp only [Act.put, sia, sc0, scs]
 refine wpAnyH_take (i := 12) (oi := _) (v := .pointer (some ⟨w.heap.size, 0, none⟩)) rfl (by kernel_rfl) (by kernel_rfl) (by kernel_rfl) (fun _ _ _ h => h) (Or.inl ⟨by rfl, ?_⟩) (by assumption) ?_
 · intro w' hSw
   go_simp
 try simp only [Act.put, sia, sc0, scs]
 obtain ⟨hc7, hf7⟩ := bcell hb7
 refine wpAnyH_ready (rs := [13]) (by kernel_rfl) (by simp) ?_
 refine AllReadyH.cons (o := _) rfl (fun K hK => ?_) AllReadyH.nil
 go_simp
 refine hK.out _ _ ?_ (fun hHeld => ?_)
 · (simp [go_sem]; exact hcx7)
 clear hK K
 try simp only [Act.put, sia, sc0, scs]
 refine wpAnyH_done (by kernel_rfl) ?_ _
 have hb8 := Below.swap (C' := #[.slice A7 l2.length c7, .int .i64 p.kind, vs p.id, vs p.par, vs p.aft, vs p.num, .int .i64 p.item.kind, vs p.item.id, vs p.item.par, vs p.item.num, vs p.item.no, vs p.item.so, .bool p.item.gone, .int .i64 p.lang, vs p.fr, vs p.to, .int .i64 k]) (i := 0) (u := .slice A7 l2.length c7) hb7 (by simp)
 have hw5 := HB6.out.size
 have hr8 : RdI (w7.setCell ⟨w.heap.size, 0, none⟩ (.slice A7 l2.length c7)) A7 l2 := Sl.keep hr7 (by simp) (fun b' o' hA _ => Below.heap_setCell _ _ _ _ (by have := hA7 b' o' hA; simp at this hw5 ⊢; omega))
 have hg8 : (w7.setCell ⟨w.heap.size, 0, none⟩ (.slice A7 l2.length c7)).heap[g]? = some (.cells (flat ({ x0 with par := p.par } :: r) ++ rest4).toArray 47 (0, 0)) := by
  rw [Below.heap_setCell _ _ _ _ (by have h1 := HH.out.2.1; have h2 := HB1.out.size; simp at h1 h2 ⊢; omega), hg7]
  exact HH6.out
 generalize w7.setCell ⟨w.heap.size, 0, none⟩ (.slice A7 l2.length c7) = w8 at *
 have HB8 := Lib.hid hb8
 have HR8 := Lib.hid hr8
 have HG8 := Lib.hid hg8
 clear hc hf hblk hc7 hf7 hcx hcx6 hcx7 hb7 hr7 hr8 hg8 hg7 hb6 hb56 hown6 hown7 hv7 hvb7 hF7 hHeld
 obtain ⟨hc, hf⟩ := bcell hb8
 have hblk := bblk hb8
 clear hb8
 go_wp2_with fail
 obtain ⟨i, hi, hil, hx1, hx2⟩ := HPO.out
 have hlb1 : ({ x0 with par := p.par } :: r : List Item).length = n := HLB.out
 have hys8 : OwnI w8 0 (.slice (some ⟨g, 0, none⟩) n cap4) ({ x0 with par := p.par } :: r) := by
  have hs4 := HH.out.2.2.2.2
  have hfl : (flat ({ x0 with par := p.par } :: r) ++ rest4).length = (flat (x0 :: r) ++ rest4).length := by simp [flat, Item.cells]
  have := OwnI.mk (l := { x0 with par := p.par } :: r) (rest := rest4) (base := 0) (cap := cap4) (Nat.zero_le _) HG8.out HH.out.2.2.1 HH.out.2.2.2.1 (by rw [hfl]; exact hs4)
  rwa [hlb1] at this
 have hl2n : l2.length ≤ l.length := by
  have := congrArg List.length HL2.out
  simp at this
  omega
 have hsh2 : ∀ x ∈ l2, x.Short := by
  intro x hx
  rw [← HL2.out] at hx
  rcases List.mem_append.1 hx with h | h
  · exact HSH.out x (List.mem_of_mem_take h)
  · exact HSH.out x (List.mem_of_mem_drop h)
 have HW := Lib.hid (put_any l2 ({ x0 with par := p.par } :: r) A7 c7 p k 0 _ w8 HR8.out hys8 (by simp) (by rw [hlb1]; omega) hsh2 i hi hil hx1 hx2)
 have hput : putL l2 ({ x0 with par := p.par } :: r) p.par p.aft = ins l2 ({ x0 with par := p.par } :: r) i := by unfold putL; rw [hi]; rfl
 have HP := Lib.hid hput; clear hput hi hil hx1 hx2
 refine HW.out.mono ?_
 rintro e w9 ⟨v, rfl, ⟨A', c', rfl, hr9, hlc', hA'⟩, hb9⟩
 have hb10 := HB8.out.trans (hb9.mono HB8.out.size)
 clear hc hf hblk hb9
 obtain ⟨hc, hf⟩ := bcell hb10
 have HB10 := Lib.hid hb10; clear hb10
 go_wp2_with fail
 refine bodyPost_ret (v := .tuple #[.agg #[.slice A' (ins l2 ({ x0 with par := p.par } :: r) i).length c'], .int .i64 0]) (by simp [results, Tryz.results63, go_sem, hc, hf]) rfl ⟨_, rfl, ?_, ?_⟩
 · rw [HP.out]
   have hw8 := HB8.out.size
   refine ⟨A', c', rfl, Sl.keep hr9 (by simp) (fun b' o' hA _ => Below.heap_setCell _ _ _ _ ?_), hlc', fun b' o' hA => ?_⟩
   · have h1 := hA' b' o' hA
     simp at h1 hw8 ⊢
     omega
   · have h1 := hA' b' o' hA
     simp at h1 hw8
     omega
 · refine Below.setCell (((((Below.refl _ _).alloc (Nat.le_refl _) _).alloc (by simp) _).alloc (by simp; omega) _).trans (HB10.out.mono (by simp; omega))) ?_ _
   simp
theorem move_5 (l : List Item) (A : Option Addr) (c : Nat) (p : Patch) (k : Nat) (w : World) (hr : RdI w A l) (hl : l.length ≤ 100000) (hsh : ∀ x ∈ l, x.Short) (he : existsF l p.par p.aft = true) (h1 : (p.par == p.id) = false) (h2 : (p.aft == p.id) = false) (h3 : p.par.isEmpty = false) (hu : underB l p.par p.id = false) (n : Nat) (hn : (1 : Int) + (belowL l p.id).length = n) (hkn : k + n ≤ l.length) (hlc : l.length ≤ c) (l2 : List Item) (hl2 : l.take k ++ l.drop (k + n) = l2) (x0 : Item) (r : List Item) (hx0 : (l.drop k).take n = x0 :: r) (hpo : PutOk l2 p.par p.aft) :
 Does 63 l A c p k w (putL l2 ({ x0 with par := p.par } :: r) p.par p.aft, 0) := by
 unfold Does
 have HE := fun W h => Lib.hid (exists_any l A c p k W h (by omega))
 have HU := fun W h => Lib.hid (under_any l A c p.par p.id W h (by omega) hsh)
 have HR := Lib.hid hr; clear hr
 have HSH := Lib.hid hsh; clear hsh
 have HE0 := Lib.hid he; clear he
 have hb0 := ((Below.refl w.heap.size w).alloc (Nat.le_refl _) (.cells #[.slice A l.length c, .int .i64 p.kind, vs p.id, vs p.par, vs p.aft, vs p.num, .int .i64 p.item.kind, vs p.item.id, vs p.item.par, vs p.item.num, vs p.item.no, vs p.item.so, .bool p.item.gone, .int .i64 p.lang, vs p.fr, vs p.to, .int .i64 k] 94)).alloc (by simp) (.cells #[.slice none 0 0] 24)
 have hb1 := hb0.alloc (by simp; omega) (.cells #[.int .i64 p.kind, vs p.id, vs p.par, vs p.aft, vs p.num, .int .i64 p.item.kind, vs p.item.id, vs p.item.par, vs p.item.num, vs p.item.no, vs p.item.so, .bool p.item.gone, .int .i64 p.lang, vs p.fr, vs p.to] 49)
 have HB0 := Lib.hid hb1; clear hb0 hb1
 have hn1 : 1 ≤ n := by omega
 have HU0 := Lib.hid hu; clear hu
 have HN := Lib.hid hn; clear hn
 have HL2 := Lib.hid hl2; clear hl2
 have HX0 := Lib.hid hx0; clear hx0
 have HPO := Lib.hid hpo; clear hpo
 have hne : l ≠ [] := by rintro rfl; simp at hkn; omega
 obtain ⟨b, o, rfl, hbs, _⟩ := HR.out hne
 have HNE := Lib.hid hne; clear hne
 have hck : ¬ c = k := by omega
 have HLC := Lib.hid hlc
 go_enter Tryz.func63, Tryz.ntmps63
 go_wp2_with fail
 refine (HE _ (HR.out.below HB0.out)).out.mono ?_
 rintro e w1 ⟨rfl, hb1⟩
 rw [HE0.out]
 obtain ⟨hc, hf⟩ := bcell hb1
 have hblk := bblk hb1
 have HB1 := Lib.hid hb1; clear hb1
 go_wp2_with fail
 refine (HU _ ((HR.out.below HB0.out).below HB1.out)).out.mono ?_
 rintro e w2 ⟨rfl, hb2⟩
 rw [HU0.out]
 have hb3 := HB1.out.trans (hb2.mono HB1.out.size)
 clear hc hf hblk HB1
 obtain ⟨hc, hf⟩ := bcell hb3
 have hblk := bblk hb3
 have HB1 := Lib.hid hb3; clear hb2 hb3
 go_wp2_with fail
 refine (size_any l _ c p k p.id _ ((HR.out.below HB0.out).below HB1.out) (by omega) HSH.out).mono ?_
 rintro e w3 ⟨rfl, hb2⟩
 rw [HN.out]
 have hb3 := HB1.out.trans (hb2.mono HB1.out.size)
 clear hc hf hblk HB1
 obtain ⟨hc, hf⟩ := bcell hb3
 have hblk := bblk hb3
 have HB1 := Lib.hid hb3; clear hb2 hb3
 have hk0 : (0 : Int) ≤ k := by omega
 have hk1 : (k : Int) ≤ (k : Int) + n := by omega
 have hk2 : (k : Int) + n ≤ l.length := by omega
 have hk3 : (l.length : Int) ≤ 100000 := by omega
 have hk4 : (k : Int) + n ≤ c := by omega
 go_wp2_with fail
 have hlb : ((l.drop k).take n).length = n := by simp; omega
 have hrb : RdI w (some ⟨b, o + k * 7, none⟩) ((l.drop k).take n) := (HR.out.drop k).take n
 have hcl := clone_any ((l.drop k).take n) (some ⟨b, o + k * 7, none⟩) (c - k) w3 ((hrb.below HB0.out).below HB1.out) (by omega)
 rw [hlb] at hcl
 have HLB := Lib.hid hlb; clear hlb hrb
 have HCL := Lib.hid hcl; clear hcl
 rw [HX0.out] at HCL HLB
 refine HCL.out.mono ?_
 rintro e w4 ⟨v4, rfl, hown, hb4⟩
 obtain ⟨g, cap4, rest4, rfl, hg, hglt, hh, hlc4, hcm4, hs4⟩ := hown.row (by simp)
 rw [HLB.out]
 have hcg : w4.cell? ⟨g, 2, none⟩ = some (vs x0.par) := by rw [cell_of_row _ _ _ _ _ _ hh]; simp [flat, Item.cells]
 have hfg : w4.frozen? ⟨g, 2, none⟩ = false := frozen_of_row _ _ _ _ _ hh
 have hn0 : (0 : Int) < n := by omega
 have HH := Lib.hid (And.intro hh (And.intro hg (And.intro hlc4 (And.intro hcm4 hs4)))); clear hh hg hlc4 hcm4 hs4 hown
 have HB4 := Lib.hid hb4
 have hb5 := HB1.out.trans (hb4.mono HB1.out.size)
 clear hc hf hblk hb4
 obtain ⟨hc, hf⟩ := bcell hb5
 have hblk := bblk hb5
 have HB5 := Lib.hid hb5; clear hb5
 go_wp2_with fail
 have hb6 := Below.setCell HB5.out (p := ⟨g, 2, none⟩) (Nat.le_trans HB1.out.size HH.out.2.1) (vs p.par)
 have hh6 := row_setCell (o := 2) (u := vs p.par) HH.out.1
 rw [set_par] at hh6
 generalize w4.setCell ⟨g, 2, none⟩ (vs p.par) = w5 at *
 clear hc hf hblk
 obtain ⟨hc, hf⟩ := bcell hb6
 have hblk := bblk hb6
 have HB6 := Lib.hid hb6; clear hb6
 have HH6 := Lib.hid hh6; clear hh6
 have hcx : w5.cell? ⟨w.heap.size, 16, none⟩ = some (.int .i64 k) := by
  rw [hc _ _ (by simp; omega)]
  simp [go_sem]
 have hlc := HLC.out
 have HC5 := fun W h => Lib.hid (clone_any l (some ⟨b, o, none⟩) c W h (by omega))
 have hwrap : IntKind.i64.wrap ((k : Int) + n) = k + n := wrap_small _ (by omega) (by omega)
 have HRD := Lib.hid ((HR.out.below HB0.out).below HB6.out)
 refine wp_region_held_drew (S := fun W => W.cell? ⟨w.heap.size, 16, none⟩ = some (.int .i64 k)) (by kernel_rfl) (by simpa [go_sem] using hcx) (fun hHeld => ?_)
 refine wpAnyH_take (i := 0) (oi := _) (v := .pointer (some ⟨w.heap.size, 0, none⟩)) rfl (by kernel_rfl) (by kernel_rfl) (by kernel_rfl) (fun _ _ _ h => h) (Or.inl ⟨by rfl, ?_⟩) (by assumption) ?_
 · intro w' hSw
   go_simp
 try simp only [Act.put, sia, sc0, scs]
 refine wpAnyH_take (i := 1) (oi := _) (v := .pointer (some ⟨w.heap.size, 0, none⟩)) rfl (by kernel_rfl) (by kernel_rfl) (by kernel_rfl) (fun _ _ _ h => h) (Or.inl ⟨by rfl, ?_⟩) (by assumption) ?_
 · intro w' hSw
   go_simp
 try simp only [Act.put, sia, sc0, scs]
 refine wpAnyH_take (i := 4) (oi := _) (v := .pointer (some ⟨w.heap.size, 16, none⟩)) rfl (by kernel_rfl) (by kernel_rfl) (by kernel_rfl) (fun _ _ _ h => h) (Or.inl ⟨by rfl, ?_⟩) (by assumption) ?_
 · intro w' hSw
   go_simp
 try simp only [Act.put, sia, sc0, scs]
 refine wpAnyH_take (i := 6) (oi := _) (v := .pointer (some ⟨w.heap.size, 16, none⟩)) rfl (by kernel_rfl) (by kernel_rfl) (by kernel_rfl) (fun _ _ _ h => h) (Or.inl ⟨by rfl, ?_⟩) (by assumption) ?_
 · intro w' hSw
   go_simp
 try simp only [Act.put, sia, sc0, scs]
 refine wpAnyH_take (i := 8) (oi := _) (v := .int .i64 n) rfl (by kernel_rfl) (by kernel_rfl) (by kernel_rfl) (fun _ _ _ h => h) (Or.inl ⟨by rfl, ?_⟩) (by assumption) ?_
 · intro w' hSw
   go_simp
 try simp only [Act.put, sia, sc0, scs]
 refine wpAnyH_take (i := 5) (oi := _) (v := .int .i64 k) rfl (by kernel_rfl) (by kernel_rfl) (by kernel_rfl) (fun _ _ _ h => h) (Or.inl ⟨by rfl, ?_⟩) (by assumption) ?_
 · intro w' hSw
   go_simp
 try simp only [Act.put, sia, sc0, scs]
 refine wpAnyH_take (i := 7) (oi := _) (v := .int .i64 k) rfl (by kernel_rfl) (by kernel_rfl) (by kernel_rfl) (fun _ _ _ h => h) (Or.inl ⟨by rfl, ?_⟩) (by assumption) ?_
 · intro w' hSw
   go_simp
 try simp only [Act.put, sia, sc0, scs]
 refine wpAnyH_take (i := 9) (oi := _) (v := .int .i64 (k + n)) rfl (by kernel_rfl) (by kernel_rfl) (by kernel_rfl) (fun _ _ _ h => h) (Or.inl ⟨by rfl, ?_⟩) (by assumption) ?_
 · intro w' hSw
   go_simp
 try simp only [Act.put, sia, sc0, scs]
 refine wpAnyH_ready (rs := [2]) (by kernel_rfl) (by simp) ?_
 refine AllReadyH.cons (o := _) rfl (fun K hK => ?_) AllReadyH.nil
 go_simp
 refine hK.out _ _ ?_ (fun hHeld => ?_)
 · exact hHeld
 clear hK K
 try simp only [Act.put, sia, sc0, scs]
 refine wpAnyH_ready (rs := [3]) (by kernel_rfl) (by simp) ?_
 refine AllReadyH.cons (o := _) rfl (fun K hK => ?_) AllReadyH.nil
 go_simp
 refine (HC5 _ (HRD.out.below (Below.refl _ _).drew)).out.mono ?_
 rintro e w6 ⟨v6, rfl, hown6, hb6⟩
 have hcx6 := (hb6.cell (p := ⟨w.heap.size, 16, none⟩) (by have := HB6.out.size; simp at this ⊢; omega)).trans hHeld
 go_wp2_with fail
 refine hK.out _ _ ?_ (fun hHeld => ?_)
 · exact hcx6
 clear hK K
 try simp only [Act.put, sia, sc0, scs]
 refine wpAnyH_ready (rs := [10]) (by kernel_rfl) (by simp) ?_
 refine AllReadyH.cons (o := _) rfl (fun K hK => ?_) AllReadyH.nil
 go_simp
 have hcapn : k + n ≤ l.length := hkn
 refine (delete_any l k (k + n) _ v6 w6 hown6 (by omega) hkn).mono ?_
 rintro e w7 ⟨v7, rfl, hown7, hv7, hvb7⟩
 rw [HL2.out] at hown7
 have hb56 := HB6.out.drew.trans (hb6.mono (by have := HB6.out.size; simp at this ⊢; omega))
 have hF7 : ∀ y ∈ v6.ownBlock.toList, w5.heap.size ≤ y := by
  rcases hown6.block with h | ⟨g6, h, hg6, _⟩
  · rw [h]; simp
  · rw [h]; simpa using hg6
 have hb7 := VEff.onBelow hb56 hv7 (fun y hy => Nat.le_trans HB6.out.size (hF7 y hy)) hb56.size
 have hg7 : w7.heap[g]? = w5.heap[g]? := by
  have hgl : g < w5.heap.size := lt_of_heap HH6.out
  refine (hv7.block g (Nat.lt_of_lt_of_le hgl hb6.size) (fun hy => ?_)).trans (hb6.block g hgl)
  have := hF7 g hy
  omega
 have hcx7 : w7.cell? ⟨w.heap.size, 16, none⟩ = some (.int .i64 k) := by
  rw [(bcell hb7).1 _ _ (by simp; omega)]
  simp [go_sem]
 obtain ⟨A7, c7, rfl, hr7, -, hA7⟩ := hown7.slice
 refine hK.out _ _ ?_ (fun hHeld => ?_)
 · exact hcx7
 clear hK K
 try simp only [Act.put, sia, sc0, scs]
 refine wpAnyH_take (i := 11) (oi := _) (v := .agg #[.slice A7 l2.length c7]) rfl (by kernel_rfl) (by kernel_rfl) (by kernel_rfl) (fun _ _ _ h => h) (Or.inl ⟨by rfl, ?_⟩) (by assumption) ?_
 · intro w' hSw
   go_simp
 try simp only [Act.put, sia, sc0, scs]
 refine wpAnyH_take (i := 12) (oi := _) (v := .pointer (some ⟨w.heap.size, 0, none⟩)) rfl (by kernel_rfl) (by kernel_rfl) (by kernel_rfl) (fun _ _ _ h => h) (Or.inl ⟨by rfl, ?_⟩) (by assumption) ?_
 · intro w' hSw
   go_simp
 try simp only [Act.put, sia, sc0, scs]
 obtain ⟨hc7, hf7⟩ := bcell hb7
 refine wpAnyH_ready (rs := [13]) (by kernel_rfl) (by simp) ?_
 refine AllReadyH.cons (o := _) rfl (fun K hK => ?_) AllReadyH.nil
 go_simp
 refine hK.out _ _ ?_ (fun hHeld => ?_)
 · (simp [go_sem]; exact hcx7)
 clear hK K
 try simp only [Act.put, sia, sc0, scs]
 refine wpAnyH_done (by kernel_rfl) ?_ _
 have hb8 := Below.swap (C' := #[.slice A7 l2.length c7, .int .i64 p.kind, vs p.id, vs p.par, vs p.aft, vs p.num, .int .i64 p.item.kind, vs p.item.id, vs p.item.par, vs p.item.num, vs p.item.no, vs p.item.so, .bool p.item.gone, .int .i64 p.lang, vs p.fr, vs p.to, .int .i64 k]) (i := 0) (u := .slice A7 l2.length c7) hb7 (by simp)
 have hw5 := HB6.out.size
 have hr8 : RdI (w7.setCell ⟨w.heap.size, 0, none⟩ (.slice A7 l2.length c7)) A7 l2 := Sl.keep hr7 (by simp) (fun b' o' hA _ => Below.heap_setCell _ _ _ _ (by have := hA7 b' o' hA; simp at this hw5 ⊢; omega))
 have hg8 : (w7.setCell ⟨w.heap.size, 0, none⟩ (.slice A7 l2.length c7)).heap[g]? = some (.cells (flat ({ x0 with par := p.par } :: r) ++ rest4).toArray 47 (0, 0)) := by
  rw [Below.heap_setCell _ _ _ _ (by have h1 := HH.out.2.1; have h2 := HB1.out.size; simp at h1 h2 ⊢; omega), hg7]
  exact HH6.out
 generalize w7.setCell ⟨w.heap.size, 0, none⟩ (.slice A7 l2.length c7) = w8 at *
 have HB8 := Lib.hid hb8
 have HR8 := Lib.hid hr8
 have HG8 := Lib.hid hg8
 clear hc hf hblk hc7 hf7 hcx hcx6 hcx7 hb7 hr7 hr8 hg8 hg7 hb6 hb56 hown6 hown7 hv7 hvb7 hF7 hHeld
 obtain ⟨hc, hf⟩ := bcell hb8
 have hblk := bblk hb8
 clear hb8
 go_wp2_with fail
 obtain ⟨i, hi, hil, hx1, hx2⟩ := HPO.out
 have hlb1 : ({ x0 with par := p.par } :: r : List Item).length = n := HLB.out
 have hys8 : OwnI w8 0 (.slice (some ⟨g, 0, none⟩) n cap4) ({ x0 with par := p.par } :: r) := by
  have hs4 := HH.out.2.2.2.2
  have hfl : (flat ({ x0 with par := p.par } :: r) ++ rest4).length = (flat (x0 :: r) ++ rest4).length := by simp [flat, Item.cells]
  have := OwnI.mk (l := { x0 with par := p.par } :: r) (rest := rest4) (base := 0) (cap := cap4) (Nat.zero_le _) HG8.out HH.out.2.2.1 HH.out.2.2.2.1 (by rw [hfl]; exact hs4)
  rwa [hlb1] at this
 have hl2n : l2.length ≤ l.length := by
  have := congrArg List.length HL2.out
  simp at this
  omega
 have hsh2 : ∀ x ∈ l2, x.Short := by
  intro x hx
  rw [← HL2.out] at hx
  rcases List.mem_append.1 hx with h | h
  · exact HSH.out x (List.mem_of_mem_take h)
  · exact HSH.out x (List.mem_of_mem_drop h)
 have HW := Lib.hid (put_any l2 ({ x0 with par := p.par } :: r) A7 c7 p k 0 _ w8 HR8.out hys8 (by simp) (by rw [hlb1]; omega) hsh2 i hi hil hx1 hx2)
 have hput : putL l2 ({ x0 with par := p.par } :: r) p.par p.aft = ins l2 ({ x0 with par := p.par } :: r) i := by unfold putL; rw [hi]; rfl
 have HP := Lib.hid hput; clear hput hi hil hx1 hx2
 refine HW.out.mono ?_
 rintro e w9 ⟨v, rfl, ⟨A', c', rfl, hr9, hlc', hA'⟩, hb9⟩
 have hb10 := HB8.out.trans (hb9.mono HB8.out.size)
 clear hc hf hblk hb9
 obtain ⟨hc, hf⟩ := bcell hb10
 have HB10 := Lib.hid hb10; clear hb10
 go_wp2_with fail
 refine bodyPost_ret (v := .tuple #[.agg #[.slice A' (ins l2 ({ x0 with par := p.par } :: r) i).length c'], .int .i64 0]) (by simp [results, Tryz.results63, go_sem, hc, hf]) rfl ⟨_, rfl, ?_, ?_⟩
 · rw [HP.out]
   have hw8 := HB8.out.size
   refine ⟨A', c', rfl, Sl.keep hr9 (by simp) (fun b' o' hA _ => Below.heap_setCell _ _ _ _ ?_), hlc', fun b' o' hA => ?_⟩
   · have h1 := hA' b' o' hA
     simp at h1 hw8 ⊢
     omega
   · have h1 := hA' b' o' hA
     simp at h1 hw8
     omega
 · refine Below.setCell (((((Below.refl _ _).alloc (Nat.le_refl _) _).alloc (by simp) _).alloc (by simp; omega) _).trans (HB10.out.mono (by simp; omega))) ?_ _
   simp
def moveL (l : List Item) (p : Patch) (k : Nat) : List Item :=
 match (l.drop k).take (1 + (belowL l p.id).length) with
 | [] => []
 | x :: r => putL (l.take k ++ l.drop (k + (1 + (belowL l p.id).length))) ({ x with par := p.par } :: r) p.par p.aft
def moveF (l : List Item) (p : Patch) (k : Nat) : List Item × Int := if moveOk l p then (moveL l p k, 0) else ([], 14)
theorem move_any (l : List Item) (A : Option Addr) (c : Nat) (p : Patch) (k : Nat) (w : World) (hr : RdI w A l) (hl : l.length ≤ 100000) (hsh : ∀ x ∈ l, x.Short) (hlc : l.length ≤ c) (hkn : k + (1 + (belowL l p.id).length) ≤ l.length)
 (hpo : moveOk l p = true → PutOk (l.take k ++ l.drop (k + (1 + (belowL l p.id).length))) p.par p.aft) : Does 63 l A c p k w (moveF l p k) := by
 cases hx : (l.drop k).take (1 + (belowL l p.id).length) with
 | nil =>
   have := congrArg List.length hx
   simp at this
   omega
 | cons x r =>
   unfold moveF moveOk moveL
   unfold moveOk at hpo
   rw [hx]
   cases he : existsF l p.par p.aft with
   | false => exact move_0 l A c p k w hr hl hsh he
   | true =>
     cases h1 : (p.par == p.id) with
     | true => exact move_1 l A c p k w hr hl hsh he h1
     | false =>
       cases h2 : (p.aft == p.id) with
       | true => exact move_2 l A c p k w hr hl hsh he h1 h2
       | false =>
         cases h3 : p.par.isEmpty with
         | true => exact move_4 l A c p k w hr hl hsh he h1 h2 h3 _ (by push_cast; rfl) hkn hlc _ rfl x r hx (hpo (by simp [he, h1, h2, h3]))
         | false =>
           cases hu : underB l p.par p.id with
           | true => exact move_3 l A c p k w hr hl hsh he h1 h2 h3 hu
           | false => exact move_5 l A c p k w hr hl hsh he h1 h2 h3 hu _ (by push_cast; rfl) hkn hlc _ rfl x r hx (hpo (by simp [he, h1, h2, h3, hu]))
end Go.Proofs.YtecnlfaholmpoaaGreat
