/- The law PatchLists. -/
import Derived.Test.YtkdcenbommhnoaaAll
import Derived.Deep.RegionHeld3
import Derived.Deep.DeepCutAuto
set_option linter.unusedVariables false
set_option linter.unusedSimpArgs false
namespace Go.Proofs.Ytkdcenbommhnoaa
open Go.RowKit
theorem light_ready {l : List Item} {ps : List Patch} (h : lightB l ps = true) : ps.length ≤ 12 ∧ ∀ q ∈ ps, q.Ready := by
  obtain ⟨h1, h2⟩ := light_pats h
  refine ⟨h1, fun q hq => ?_⟩
  obtain ⟨a, b, c⟩ := few_facts (h2 q hq)
  exact ⟨a, b, c⟩
theorem Sl.prefix_ {α : Type} {cs : α → List Value} {s : Nat} {w : World} {A : Option Addr} {u v : List α} (h : Sl cs s w A (u ++ v)) : Sl cs s w A u := by
  intro hne
  obtain ⟨b, o, hA, hlt, hc⟩ := h (by intro h; simp at h; exact hne h.1)
  refine ⟨b, o, hA, hlt, fun k x hx j y hy => hc k x ?_ j y hy⟩
  rw [List.getElem?_append_left (List.getElem?_eq_some_iff.1 hx).1]
  exact hx
theorem Sl.suffix_ {α : Type} {cs : α → List Value} {s : Nat} {w : World} {b o : Nat} {l : List α} (h : Sl cs s w (some ⟨b, o, none⟩) l) (k : Nat) : Sl cs s w (some ⟨b, o + k * s, none⟩) (l.drop k) := by
  intro hne
  obtain ⟨b', o', hA, hlt, hc⟩ := h (by rintro rfl; simp at hne)
  cases hA
  refine ⟨b, o + k * s, rfl, hlt, fun i x hx j v hv => ?_⟩
  rw [List.getElem?_drop] at hx
  have := hc (k + i) x hx j v hv
  rw [← this]
  congr 2
  rw [Nat.add_mul]
  omega
theorem allF_index (l : List Item) (ps : List Patch) (i : Nat) (h : (allF l ps i).2.2 = 0) : (allF l ps i).2.1 = -1 := (all_shift l ps i i).2.2 h
theorem lists_err {l : List Item} {ps : List Patch} (hv : walkB l = true) (he : (allF l ps 0).2.2 ≠ 0) : ∃ (u : List Patch) (p : Patch) (t : List Patch) (r : List Item) (er : Int), ps = u ++ p :: t ∧ er ≠ 0 ∧ allR l ps = ([], (u.length : Int), er) ∧
    allR l u = (r, -1, 0) ∧ walkB r = true ∧ (applyF r p).2 = er ∧ (applyF r p).1 = [] ∧ allR l (u ++ [p]) = ([], (u.length : Int), er) := by
  have hR : ∀ qs, allR l qs = allF l qs 0 := by intro qs; unfold allR; rw [hv]; rfl
  obtain ⟨k1, u, p, t, hps, k2, k3, k4, k5⟩ := all_err l ps 0 he
  rw [Nat.zero_add] at k2
  have e1 : allF l ps 0 = ([], (u.length : Int), (allF l ps 0).2.2) := by rw [← k1, ← k2]
  have hr := all_good l u 0 hv k3
  refine ⟨u, p, t, (allF l u 0).1, (allF l ps 0).2.2, hps, he, by rw [hR]; exact e1, ?_, hr, k4, apply_err (by rw [k4]; exact he), by rw [hR, k5]; exact e1⟩
  rw [hR]
  rw [← k3, ← allF_index l u 0 k3]
theorem lists_ok {l : List Item} {ps : List Patch} (hv : walkB l = true) (he : (allF l ps 0).2.2 = 0) (k : Nat) : ∃ (x d : List Item), allR l ps = (d, -1, 0) ∧ allR l (ps.take k) = (x, -1, 0) ∧ walkB x = true ∧ allR x (ps.drop k) = (d, -1, 0) ∧ walkB d = true := by
  have hR : ∀ qs, allR l qs = allF l qs 0 := by intro qs; unfold allR; rw [hv]; rfl
  have h1 : allF l ps 0 = if (allF l (ps.take k) 0).2.2 = 0 then allF (allF l (ps.take k) 0).1 (ps.drop k) (0 + (ps.take k).length) else allF l (ps.take k) 0 := by
    conv => lhs; rw [← List.take_append_drop k ps]
    exact all_append _ _ _ _
  by_cases h0 : (allF l (ps.take k) 0).2.2 = 0
  · rw [if_pos h0] at h1
    have hx := all_good l (ps.take k) 0 hv h0
    obtain ⟨s1, s2, s3⟩ := all_shift (allF l (ps.take k) 0).1 (ps.drop k) (0 + (ps.take k).length) 0
    have hi := allF_index l ps 0 he
    have h2 : (allF (allF l (ps.take k) 0).1 (ps.drop k) 0).2.2 = 0 := by rw [← s2, ← h1]; exact he
    have h3 := allF_index _ _ 0 h2
    refine ⟨(allF l (ps.take k) 0).1, (allF l ps 0).1, ?_, ?_, hx, ?_, all_good l ps 0 hv he⟩
    · rw [hR, ← he, ← hi]
    · rw [hR, ← h0, ← allF_index l _ 0 h0]
    · have hRx : allR (allF l (ps.take k) 0).1 (ps.drop k) = allF (allF l (ps.take k) 0).1 (ps.drop k) 0 := by unfold allR; rw [hx]; rfl
      rw [hRx, h1, s1, ← h2, ← h3]
  · rw [if_neg h0] at h1
    rw [h1] at he
    exact absurd he h0
set_option maxRecDepth 20000 in
set_option maxHeartbeats 4000000 in
theorem plists_a (l : List Item) (ps : List Patch) (A B : Option Addr) (c dc : Nat) (raw : Int) (w : World) (m : Int) (hr : RdI w A l) (hs : RdP w B ps) (hl : l.length ≤ maxLen) (hlc : l.length ≤ c) (hm : ps.length ≤ maxLen) (hmc : ps.length ≤ dc) (hdm : dc ≤ maxLen) (hraw : 0 ≤ raw ∧ raw ≤ 255) (hfit : ∀ x ∈ l, x.Fits) (hfp : ∀ q ∈ ps, q.Fits) (hg : w.cell? ⟨0, 0, none⟩ = some (.int .i64 m)) (hli : lightB l ps = false) :
    Calls Try.prog 7 #[.agg #[.slice A l.length c], .slice B ps.length dc, .int .u8 raw] w fun e w' => e = .returned (.bool true) ∧ Below w.heap.size w w' := by
  have hsz0 : 0 < w.heap.size := World.block_lt_of_cell? w _ hg
  have hb0 := (Below.refl w.heap.size w).alloc (Nat.le_refl _) (.cells #[.slice A l.length c] 24)
  have HB0 := Lib.hid hb0; clear hb0
  have HR := Lib.hid hr; clear hr
  have HS := Lib.hid hs; clear hs
  have HG := Lib.hid hg; clear hg
  have HFI := Lib.hid hfit; clear hfit
  have HFP := Lib.hid hfp; clear hfp
  have HLI := Lib.hid hli; clear hli
  go_enter Try.func7, Try.ntmps7
  go_wp2_with fail
  refine (head_any _ m (step_cell HB0.out HG.out)).mono ?_
  rintro e w1 ⟨rfl, hb1⟩
  obtain ⟨hc, hf⟩ := bcell hb1
  have HB1 := Lib.hid hb1; clear hb1
  go_wp2_with fail
  refine (light_any l ps A B c dc _ ((HR.out.below HB0.out).below HB1.out) ((HS.out.below HB0.out).below HB1.out) hl hm HFI.out HFP.out).mono ?_
  rintro e w2 ⟨rfl, hb2⟩
  rw [HLI.out]
  have hb3 := HB1.out.trans (hb2.mono HB1.out.size)
  clear hc hf hb2 HB1
  obtain ⟨hc, hf⟩ := bcell hb3
  have HB2 := Lib.hid hb3; clear hb3
  go_wp2_with fail
  go_ret
  exact ⟨rfl, HB0.out.trans (HB2.out.mono HB0.out.size)⟩
set_option maxRecDepth 20000 in
set_option maxHeartbeats 4000000 in
theorem plists_b (l : List Item) (ps : List Patch) (A B : Option Addr) (c dc : Nat) (raw : Int) (w : World) (m : Int) (hr : RdI w A l) (hs : RdP w B ps) (hl : l.length ≤ maxLen) (hlc : l.length ≤ c) (hm : ps.length ≤ maxLen) (hmc : ps.length ≤ dc) (hdm : dc ≤ maxLen) (hraw : 0 ≤ raw ∧ raw ≤ 255) (hfit : ∀ x ∈ l, x.Fits) (hfp : ∀ q ∈ ps, q.Fits) (hg : w.cell? ⟨0, 0, none⟩ = some (.int .i64 m)) (hli : lightB l ps = true) (hv : walkB l = false) :
    Calls Try.prog 7 #[.agg #[.slice A l.length c], .slice B ps.length dc, .int .u8 raw] w fun e w' => e = .returned (.bool true) ∧ Below w.heap.size w w' := by
  have hall : allR l ps = ([], -1, 1) := by unfold allR; rw [hv]; rfl
  have HALL := Lib.hid hall; clear hall
  have Hv := Lib.hid hv; clear hv
  have hsz0 : 0 < w.heap.size := World.block_lt_of_cell? w _ hg
  have hb0 := (Below.refl w.heap.size w).alloc (Nat.le_refl _) (.cells #[.slice A l.length c] 24)
  have HB0 := Lib.hid hb0; clear hb0
  have HR := Lib.hid hr; clear hr
  have HS := Lib.hid hs; clear hs
  have HG := Lib.hid hg; clear hg
  have HFI := Lib.hid hfit; clear hfit
  have HFP := Lib.hid hfp; clear hfp
  have HLI := Lib.hid hli; clear hli
  go_enter Try.func7, Try.ntmps7
  go_wp2_with fail
  refine (head_any _ m (step_cell HB0.out HG.out)).mono ?_
  rintro e w1 ⟨rfl, hb1⟩
  obtain ⟨hc, hf⟩ := bcell hb1
  have HB1 := Lib.hid hb1; clear hb1
  go_wp2_with fail
  refine (light_any l ps A B c dc _ ((HR.out.below HB0.out).below HB1.out) ((HS.out.below HB0.out).below HB1.out) hl hm HFI.out HFP.out).mono ?_
  rintro e w2 ⟨rfl, hb2⟩
  rw [HLI.out]
  have hb3 := HB1.out.trans (hb2.mono HB1.out.size)
  clear hc hf hb2 HB1
  obtain ⟨hc, hf⟩ := bcell hb3
  have HB2 := Lib.hid hb3; clear hb3
  go_wp2_with fail
  have HL := Lib.hid (light_facts HLI.out)
  have HLP := Lib.hid (light_ready HLI.out)
  have hla := all_any l ps A B c dc w2 ((HR.out.below HB0.out).below HB2.out) ((HS.out.below HB0.out).below HB2.out) (by have := HL.out.1; omega) hlc HL.out.2 (by have := HLP.out.1; omega) HLP.out.2 m (step_cell (HB0.out.trans (HB2.out.mono HB0.out.size)) HG.out)
  unfold Alls at hla
  rw [HALL.out] at hla
  refine hla.mono ?_
  rintro e w3 ⟨v, rfl, ⟨A', c', rfl, hr', hlc', -⟩, hb2⟩
  have hb3 := HB2.out.trans (hb2.mono HB2.out.size)
  clear hc hf hb2 HB2 hla
  obtain ⟨hc, hf⟩ := bcell hb3
  have HB3 := Lib.hid hb3; clear hb3
  have HR' := Lib.hid hr'; clear hr'
  have hz3 := HB3.out.size
  simp at hz3
  have z1 : w.heap.size < w3.heap.size := by omega
  have hq : decide ((ps.length : Int) ≤ -1) = false := by simp; omega
  go_wp2_with fail
  refine (valid_any l A c _ (((HR.out.below HB0.out).below HB3.out).below ((Below.refl _ _).alloc (Nat.le_refl _) _)) (by have := HL.out.1; omega) HL.out.2).mono ?_
  rintro e w4 ⟨rfl, hb4⟩
  rw [Hv.out]
  have HX := Lib.hid (HB3.out.trans ((step_below hb4).mono HB3.out.size)); clear hb4
  go_wp2_with fail
  go_ret
  exact ⟨rfl, HB0.out.trans (HX.out.mono HB0.out.size)⟩
theorem all_lit {l : List Item} {ps : List Patch} {r : List Item} {i e : Int} (h : allR l ps = (r, i, e)) (A B : Option Addr) (n c d : Nat) (w : World) (hn : n = ps.length) (hr : RdI w A l) (hs : RdP w B ps) (hl : l.length ≤ 100000) (hlc : l.length ≤ c) (hsh : ∀ x ∈ l, x.Short) (hps : ps.length ≤ 1000000) (hrd : ∀ p ∈ ps, p.Ready) (m : Int) (hg : w.cell? ⟨0, 0, none⟩ = some (.int .i64 m)) :
    Calls Try.prog 21 #[.agg #[.slice A l.length c], .slice B n d] w fun en w' => ∃ v, en = .returned (.tuple #[v, .int .i64 i, .int .i64 e]) ∧ ResC w.heap.size w' v r ∧ Below w.heap.size w w' := by
  subst hn
  have := all_any l ps A B c d w hr hs hl hlc hsh hps hrd m hg
  unfold Alls at this
  rw [h] at this
  exact this
theorem apply_lit {l : List Item} {p : Patch} {r : List Item} {e : Int} (h1 : (applyF l p).1 = r) (h2 : (applyF l p).2 = e) (A : Option Addr) (c : Nat) (w : World) (hr : RdI w A l) (hl : l.length ≤ 100000) (hlc : l.length ≤ c) (hsh : ∀ x ∈ l, x.Short) (hrd : p.Ready) (m : Int) (hg : w.cell? ⟨0, 0, none⟩ = some (.int .i64 m)) :
    Calls Try.prog 13 #[.agg #[.slice A l.length c], p.agg] w fun en w' => ∃ v, en = .returned (.tuple #[v, .int .i64 e]) ∧ ResC w.heap.size w' v r ∧ Below w.heap.size w w' := by
  have := apply_any l A c p w hr hl hlc hsh hrd.item hrd.num m hg hrd.tlen
  unfold Applies at this
  rw [h1, h2] at this
  exact this
set_option maxRecDepth 20000 in
set_option maxHeartbeats 4000000 in
theorem plists_c (l : List Item) (ps : List Patch) (A B : Option Addr) (c dc : Nat) (raw : Int) (w : World) (m : Int) (hr : RdI w A l) (hs : RdP w B ps) (hl : l.length ≤ maxLen) (hlc : l.length ≤ c) (hm : ps.length ≤ maxLen) (hmc : ps.length ≤ dc) (hdm : dc ≤ maxLen) (hraw : 0 ≤ raw ∧ raw ≤ 255) (hfit : ∀ x ∈ l, x.Fits) (hfp : ∀ q ∈ ps, q.Fits) (hg : w.cell? ⟨0, 0, none⟩ = some (.int .i64 m)) (hli : lightB l ps = true) (hv : walkB l = true) (u : List Patch) (p : Patch) (tt : List Patch) (r : List Item) (er : Int) (hps : ps = u ++ p :: tt) (h0 : er ≠ 0) (hall : allR l ps = ([], (u.length : Int), er))
    (hallu : allR l u = (r, -1, 0)) (hvr : walkB r = true) (hap2 : (applyF r p).2 = er) (hap1 : (applyF r p).1 = []) (hallp : allR l (u ++ [p]) = ([], (u.length : Int), er)) :
    Calls Try.prog 7 #[.agg #[.slice A l.length c], .slice B ps.length dc, .int .u8 raw] w fun e w' => e = .returned (.bool true) ∧ Below w.heap.size w w' := by
  have hlenps : ps.length = u.length + (1 + tt.length) := by rw [hps]; simp; omega
  have HLEN := Lib.hid hlenps; clear hlenps
  have hpu : ps[u.length]? = some p := by rw [hps]; simp
  have hmem : ∀ q, q ∈ u ∨ q = p → q ∈ ps := by intro q h; rw [hps]; rcases h with h | h <;> simp [h]
  have h0e : (er != 0) = true := by simpa using h0
  have HALL := Lib.hid hall; clear hall
  have Hv := Lib.hid hv; clear hv
  have HALLU := Lib.hid hallu; clear hallu
  have HALLP := Lib.hid hallp; clear hallp
  have HAP := Lib.hid (And.intro hap1 hap2); clear hap1 hap2
  have HVR := Lib.hid hvr; clear hvr
  have HPS := Lib.hid hps; clear hps
  have HPU := Lib.hid hpu; clear hpu
  have HMEM := Lib.hid hmem; clear hmem
  clear h0
  have hsz0 : 0 < w.heap.size := World.block_lt_of_cell? w _ hg
  have hb0 := (Below.refl w.heap.size w).alloc (Nat.le_refl _) (.cells #[.slice A l.length c] 24)
  have HB0 := Lib.hid hb0; clear hb0
  have HR := Lib.hid hr; clear hr
  have HS := Lib.hid hs; clear hs
  have HG := Lib.hid hg; clear hg
  have HFI := Lib.hid hfit; clear hfit
  have HFP := Lib.hid hfp; clear hfp
  have HLI := Lib.hid hli; clear hli
  go_enter Try.func7, Try.ntmps7
  go_wp2_with fail
  refine (head_any _ m (step_cell HB0.out HG.out)).mono ?_
  rintro e w1 ⟨rfl, hb1⟩
  obtain ⟨hc, hf⟩ := bcell hb1
  have HB1 := Lib.hid hb1; clear hb1
  go_wp2_with fail
  refine (light_any l ps A B c dc _ ((HR.out.below HB0.out).below HB1.out) ((HS.out.below HB0.out).below HB1.out) hl hm HFI.out HFP.out).mono ?_
  rintro e w2 ⟨rfl, hb2⟩
  rw [HLI.out]
  have hb3 := HB1.out.trans (hb2.mono HB1.out.size)
  clear hc hf hb2 HB1
  obtain ⟨hc, hf⟩ := bcell hb3
  have HB2 := Lib.hid hb3; clear hb3
  go_wp2_with fail
  have HL := Lib.hid (light_facts HLI.out)
  have HLP := Lib.hid (light_ready HLI.out)
  have hla := all_any l ps A B c dc w2 ((HR.out.below HB0.out).below HB2.out) ((HS.out.below HB0.out).below HB2.out) (by have := HL.out.1; omega) hlc HL.out.2 (by have := HLP.out.1; omega) HLP.out.2 m (step_cell (HB0.out.trans (HB2.out.mono HB0.out.size)) HG.out)
  unfold Alls at hla
  rw [HALL.out] at hla
  refine hla.mono ?_
  rintro e w3 ⟨v, rfl, ⟨A', c', rfl, hr', hlc', -⟩, hb2⟩
  have hb3 := HB2.out.trans (hb2.mono HB2.out.size)
  clear hc hf hb2 HB2 hla
  obtain ⟨hc, hf⟩ := bcell hb3
  have HB3 := Lib.hid hb3; clear hb3
  have HR' := Lib.hid hr'; clear hr'
  have hz3 := HB3.out.size
  simp at hz3
  have z1 : w.heap.size < w3.heap.size := by omega
  have hl12 := HLP.out.1
  have hups : u.length < ps.length := by have := HLEN.out; omega
  have hu12 : u.length < 12 := by omega
  have hq1 : decide ((u.length : Int) < -1) = false := by (first | (simp; done) | (simp; omega))
  have hq2 : decide ((ps.length : Int) ≤ u.length) = false := by simp; omega
  have hq3 : ((u.length : Int) == -1) = false := by (first | (simp; done) | (simp; omega))
  have hq4 : (0 : Int) ≤ u.length := by omega
  have hq5 : (u.length : Int) ≤ dc := by omega
  have hq6 : (u.length : Int) + 1 ≤ dc := by omega
  have hq7 : (u.length : Int) < ps.length := by omega
  have hq8 : (u.length : Int) < 12 := by omega
  have hb4 := HB3.out.alloc (by simp; omega) (.cells #[.slice A' 0 c'] 24)
  have K8 : (w3.alloc (.cells #[.slice A' 0 c'] 24)).cell? ⟨w3.heap.size, 0, none⟩ = some (.slice A' 0 c') := by simp [go_sem]
  go_wp2_with fail
  generalize (w3.alloc (.cells #[.slice A' 0 c'] 24)) = W4 at *
  have K3 : W4.cell? ⟨w.heap.size, 0, none⟩ = some (.slice A l.length c) := (hb4.cell (p := ⟨w.heap.size, 0, none⟩) (by simp)).trans (by simp [go_sem])
  have HW4 := Lib.hid (HB0.out.trans (hb4.mono HB0.out.size)); clear hb4 hc hf HB3
  have HR4 := Lib.hid (HR.out.below HW4.out)
  have HS4 := Lib.hid (HS.out.below HW4.out)
  have HG4 := Lib.hid (step_cell HW4.out HG.out)
  have y3 : w.heap.size < W4.heap.size := World.block_lt_of_cell? _ _ K3
  have y8 : w3.heap.size < W4.heap.size := World.block_lt_of_cell? _ _ K8
  have HSA : Hid (RdP W4 B (u ++ p :: tt)) := Lib.hid (by have h := HS4.out; rw [HPS.out] at h; exact h)
  have HSU : Hid (RdP W4 B u) := Lib.hid (Sl.prefix_ HSA.out)
  have HSP : Hid (RdP W4 B (u ++ [p])) := Lib.hid (Sl.prefix_ (v := tt) (by have h := HSA.out; rw [List.append_cons] at h; exact h))
  go_cut [11, 12, 13] (fun v11 v12 v13 wc => ∃ (b : Nat) (A2 : Option Addr) (c2 : Nat), v11 = .pointer (some ⟨b, 0, none⟩) ∧ v12 = .int .i64 (-1) ∧ v13 = .int .i64 (0) ∧ wc.cell? ⟨b, 0, none⟩ = some (.slice A2 (r).length c2) ∧ RdI wc A2 (r) ∧ (r).length ≤ c2 ∧ Below W4.heap.size W4 wc)
  case first =>
    go_region_held3 (fun X => X.cell? ⟨w.heap.size, 0, none⟩ = some (.slice A l.length c)) (first | go_keep | (simp [go_sem, *]; done))
      (first | (go_at_call 21; refine (all_lit HALLU.out A B u.length c dc _ rfl (by first | exact HR4.out.below (Below.refl _ _).drew | exact HR4.out.below ((Below.refl _ _).drew.alloc (Nat.le_refl _) _)) (by first | exact HSU.out.below (Below.refl _ _).drew | exact HSU.out.below ((Below.refl _ _).drew.alloc (Nat.le_refl _) _)) (by have := HL.out.1; omega) hlc HL.out.2 (by omega) (fun q hq => HLP.out.2 q (HMEM.out q (.inl hq))) m (by first | exact step_cell (Below.refl _ _).drew HG4.out | exact step_cell ((Below.refl _ _).drew.alloc (Nat.le_refl _) _) HG4.out)).mono ?_; rintro e w4 ⟨v, rfl, ⟨A2, c2, rfl, hr2, hlc2, hA2⟩, hb4⟩; obtain ⟨hc, hf⟩ := bcell hb4; have hblk := bblk hb4; simp at hc hf hblk; have hz4 := hb4.size; simp at hz4; have x1 : w.heap.size < w4.heap.size := (by omega)))
    · go_wp2_with fail
      go_meet
      case rel =>
        have q2 := hb4.size
        try simp at q2
        exact ⟨w4.heap.size, A2, c2, rfl, rfl, rfl, by simp [go_sem], hr2.below ((Below.refl _ _).alloc (Nat.le_refl _) _), hlc2, ((Below.refl W4.heap.size W4).drew.trans (hb4.mono (by simp))).alloc (by first | omega | (simp; omega)) _⟩
    · go_wp2_with fail
      go_meet
      case rel =>
        have q2 := hb4.size
        try simp at q2
        have hh : w4.cell? ⟨W4.heap.size, 0, none⟩ = some (.slice none 0 0) := (hb4.cell (p := ⟨W4.heap.size, 0, none⟩) (by simp)).trans (by simp [go_sem])
        refine ⟨W4.heap.size, A2, c2, rfl, rfl, rfl, World.cell?_setCell_same _ _ _ hh, Sl.keep hr2 (by simp) (fun b' o' hA _ => Below.heap_setCell _ _ _ _ ?_), hlc2, ?_⟩
        · have := hA2 b' o' hA
          simp at this ⊢
          omega
        · exact Below.setCell (p := ⟨W4.heap.size, 0, none⟩) (((Below.refl W4.heap.size W4).drew.alloc (by simp) _).trans (hb4.mono (by simp))) (Nat.le_refl _) _
  case' rest =>
    obtain ⟨b11, A11, c11, rfl, rfl, rfl, hcb, hrb, hlcb, hbw⟩ := hcut
    have K11 := hcb; clear hcb
    have HR11 := Lib.hid hrb; clear hrb
    have HW11 := Lib.hid hbw; clear hbw
    have HC11 := Lib.hid hlcb
    have HZ11 := Lib.hid (HW4.out.trans (HW11.out.mono HW4.out.size))
    have y11 : b11 < wc.heap.size := World.block_lt_of_cell? _ _ K11
    have y3c := Nat.lt_of_lt_of_le y3 HW11.out.size
    have K3c := step_cell HW11.out K3
    have HG11 := Lib.hid (step_cell HW11.out HG4.out)
    obtain ⟨b2, o2, C, tt2, fr, hB, hbs2, hblk2, hCs, hCe⟩ := (HS4.out.below HW11.out).row HPU.out
    subst hB
    have : b11 < wc.heap.size := (by omega)
    have : ¬ b11 = wc.heap.size := (by omega)
    have : ¬ wc.heap.size = b11 := (by omega)
    have : b2 < wc.heap.size := (by omega)
    have : ¬ b2 = wc.heap.size := (by omega)
    have : ¬ wc.heap.size = b2 := (by omega)
    go_wp2_with fail
    go_cut [14, 15] (fun v14 v15 wd => ∃ (b : Nat) (A2 : Option Addr) (c2 : Nat), v14 = .pointer (some ⟨b, 0, none⟩) ∧ v15 = .int .i64 (er) ∧ wd.cell? ⟨b, 0, none⟩ = some (.slice A2 0 c2) ∧ RdI wd A2 [] ∧ 0 ≤ c2 ∧ Below wc.heap.size wc wd)
    case first =>
      go_region_held3 (fun X => X.cell? ⟨b11, 0, none⟩ = some (.slice A11 r.length c11) ∧ X.blk b2 = some (.cells C tt2 fr)) ((go_split_ands; refine ⟨?_, ?_⟩ <;> (first | go_keep | (simp [go_sem, *]; done))))
        (first | (go_at_call 13; refine (apply_lit HAP.out.1 HAP.out.2 A11 c11 _ (by first | exact HR11.out.below (Below.refl _ _).drew | exact HR11.out.below ((Below.refl _ _).drew.alloc (Nat.le_refl _) _)) (by have := len_of_good HVR.out; omega) HC11.out (short_of_good HVR.out) (HLP.out.2 p (HMEM.out p (.inr rfl))) m (by first | exact step_cell (Below.refl _ _).drew HG11.out | exact step_cell ((Below.refl _ _).drew.alloc (Nat.le_refl _) _) HG11.out)).mono ?_; rintro e w4 ⟨v, rfl, ⟨A2, c2, rfl, hr2, hlc2, hA2⟩, hb4⟩; obtain ⟨hc, hf⟩ := bcell hb4; have hblk := bblk hb4; simp at hc hf hblk; have hz4 := hb4.size; simp at hz4; have : b11 < w4.heap.size := (by omega); have : ¬ b11 = w4.heap.size := (by omega); have : ¬ w4.heap.size = b11 := (by omega); have : b2 < w4.heap.size := (by omega); have : ¬ b2 = w4.heap.size := (by omega); have : ¬ w4.heap.size = b2 := (by omega)))
      · go_wp2_with fail
        go_meet
        case rel =>
          have q2 := hb4.size
          try simp at q2
          exact ⟨w4.heap.size, A2, c2, rfl, rfl, by simp [go_sem], hr2.below ((Below.refl _ _).alloc (Nat.le_refl _) _), hlc2, ((Below.refl wc.heap.size wc).drew.trans (hb4.mono (by simp))).alloc (by first | omega | (simp; omega)) _⟩
      · go_wp2_with fail
        go_meet
        case rel =>
          have q2 := hb4.size
          try simp at q2
          have hh : w4.cell? ⟨wc.heap.size, 0, none⟩ = some (.slice none 0 0) := (hb4.cell (p := ⟨wc.heap.size, 0, none⟩) (by simp)).trans (by simp [go_sem])
          refine ⟨wc.heap.size, A2, c2, rfl, rfl, World.cell?_setCell_same _ _ _ hh, Sl.keep hr2 (by simp) (fun b' o' hA _ => Below.heap_setCell _ _ _ _ ?_), hlc2, ?_⟩
          · have := hA2 b' o' hA
            simp at this ⊢
            omega
          · exact Below.setCell (p := ⟨wc.heap.size, 0, none⟩) (((Below.refl wc.heap.size wc).drew.alloc (by simp) _).trans (hb4.mono (by simp))) (Nat.le_refl _) _
    case' rest =>
      obtain ⟨b14, A14, c14, rfl, rfl, hcb, hrb, hlcb, hbw⟩ := hcut
      have K14 := hcb; clear hcb
      have HR14 := Lib.hid hrb; clear hrb
      have HW14 := Lib.hid hbw; clear hbw
      have HC14 := Lib.hid hlcb
      have HZ14 := Lib.hid (HZ11.out.trans (HW14.out.mono HZ11.out.size))
      have K3d := step_cell HW14.out K3c
      have y3d := Nat.lt_of_lt_of_le y3c HW14.out.size
      have HGd := Lib.hid (step_cell HW14.out HG11.out)
      have HRd := Lib.hid (HR.out.below HZ14.out)
      have HSd := Lib.hid ((HSP.out.below HW11.out).below HW14.out)
      have hq9 : IntKind.i64.wrap ((u.length : Int) + 1) = (u.length : Int) + 1 := wrap_small _ (by omega) (by omega)
      have hq10 : (0 : Int) ≤ (u.length : Int) + 1 := by omega
      clear K3 K3c K8 K11 K14 hblk2 hCs hCe
      have : w.heap.size < wc.heap.size := (by omega)
      have : ¬ w.heap.size = wc.heap.size := (by omega)
      have : ¬ wc.heap.size = w.heap.size := (by omega)
      go_wp2_with fail
      go_cut [16, 17, 18] (fun v16 v17 v18 wd => ∃ (b : Nat) (A2 : Option Addr) (c2 : Nat), v16 = .pointer (some ⟨b, 0, none⟩) ∧ v17 = .int .i64 ((u.length : Int)) ∧ v18 = .int .i64 (er) ∧ wd.cell? ⟨b, 0, none⟩ = some (.slice A2 0 c2) ∧ RdI wd A2 [] ∧ 0 ≤ c2 ∧ Below wc.heap.size wc wd)
      case first =>
        go_region_held3 (fun X => X.cell? ⟨w.heap.size, 0, none⟩ = some (.slice A l.length c)) (first | go_keep | (simp [go_sem, *]; done))
          (first | (go_at_call 21; refine (all_lit HALLP.out A (some ⟨b2, o2, none⟩) _ c dc _ (by simp) (by first | exact HRd.out.below (Below.refl _ _).drew | exact HRd.out.below ((Below.refl _ _).drew.alloc (Nat.le_refl _) _)) (by first | exact HSd.out.below (Below.refl _ _).drew | exact HSd.out.below ((Below.refl _ _).drew.alloc (Nat.le_refl _) _)) (by have := HL.out.1; omega) hlc HL.out.2 (by have := HLEN.out; simp; omega) (fun q hq => HLP.out.2 q (HMEM.out q (by simpa using hq))) m (by first | exact step_cell (Below.refl _ _).drew HGd.out | exact step_cell ((Below.refl _ _).drew.alloc (Nat.le_refl _) _) HGd.out)).mono ?_; rintro e w4 ⟨v, rfl, ⟨A2, c2, rfl, hr2, hlc2, hA2⟩, hb4⟩; obtain ⟨hc, hf⟩ := bcell hb4; have hblk := bblk hb4; simp at hc hf hblk; have hz4 := hb4.size; simp at hz4; have : w.heap.size < w4.heap.size := (by omega); have : ¬ w.heap.size = w4.heap.size := (by omega); have : ¬ w4.heap.size = w.heap.size := (by omega)))
        · go_wp2_with fail
          go_meet
          case rel =>
            have q2 := hb4.size
            try simp at q2
            exact ⟨w4.heap.size, A2, c2, rfl, rfl, rfl, by simp [go_sem], hr2.below ((Below.refl _ _).alloc (Nat.le_refl _) _), hlc2, ((Below.refl wc.heap.size wc).drew.trans (hb4.mono (by simp))).alloc (by first | omega | (simp; omega)) _⟩
        · go_wp2_with fail
          go_meet
          case rel =>
            have q2 := hb4.size
            try simp at q2
            have hh : w4.cell? ⟨wc.heap.size, 0, none⟩ = some (.slice none 0 0) := (hb4.cell (p := ⟨wc.heap.size, 0, none⟩) (by simp)).trans (by simp [go_sem])
            refine ⟨wc.heap.size, A2, c2, rfl, rfl, rfl, World.cell?_setCell_same _ _ _ hh, Sl.keep hr2 (by simp) (fun b' o' hA _ => Below.heap_setCell _ _ _ _ ?_), hlc2, ?_⟩
            · have := hA2 b' o' hA
              simp at this ⊢
              omega
            · exact Below.setCell (p := ⟨wc.heap.size, 0, none⟩) (((Below.refl wc.heap.size wc).drew.alloc (by simp) _).trans (hb4.mono (by simp))) (Nat.le_refl _) _
      case' rest =>
        obtain ⟨b16, A16, c16, rfl, rfl, rfl, hcb, hrb, hlcb, hbw⟩ := hcut
        have K16 := hcb; clear hcb
        have HR16 := Lib.hid hrb; clear hrb
        have HW16 := Lib.hid hbw; clear hbw
        have HC16 := Lib.hid hlcb
        have hne : (u.length : Int) ≠ -1 := by omega
        clear K3d
        go_wp2_with fail
        go_ret
        exact ⟨rfl, HZ14.out.trans (HW16.out.mono HZ14.out.size)⟩
theorem Sl.rest_ {α : Type} {cs : α → List Value} {s : Nat} {w : World} {A : Option Addr} {l : List α} (h : Sl cs s w A l) (k dc : Nat) (hl : l.length ≤ dc) : Sl cs s w (if dc = k then A else A.map (·.add (k * s))) (l.drop k) := by
  intro hne
  have hne2 : l ≠ [] := by rintro rfl; simp at hne
  have hk : ¬ dc = k := by
    intro e
    apply hne
    rw [List.drop_eq_nil_iff]
    omega
  obtain ⟨b, o, hA, hlt, hc⟩ := h hne2
  subst hA
  rw [if_neg hk]
  have e : Option.map (fun x : Addr => x.add (k * s)) (some ⟨b, o, none⟩) = some ⟨b, o + k * s, none⟩ := by simp [Addr.add]
  rw [e]
  exact Sl.suffix_ h k hne
set_option maxRecDepth 20000 in
set_option maxHeartbeats 4000000 in
theorem plists_d (l : List Item) (ps : List Patch) (A B : Option Addr) (c dc : Nat) (raw : Int) (w : World) (m : Int) (hr : RdI w A l) (hs : RdP w B ps) (hl : l.length ≤ maxLen) (hlc : l.length ≤ c) (hm : ps.length ≤ maxLen) (hmc : ps.length ≤ dc) (hdm : dc ≤ maxLen) (hraw : 0 ≤ raw ∧ raw ≤ 255) (hfit : ∀ x ∈ l, x.Fits) (hfp : ∀ q ∈ ps, q.Fits) (hg : w.cell? ⟨0, 0, none⟩ = some (.int .i64 m)) (hli : lightB l ps = true) (hv : walkB l = true) (k : Nat) (x d : List Item) (hk : raw.tmod ((ps.length : Int) + 1) = (k : Int)) (hkl : k ≤ ps.length) (hdk : ¬ dc = k) (hall : allR l ps = (d, -1, 0))
    (hallx : allR l (ps.take k) = (x, -1, 0)) (hvx : walkB x = true) (hally : allR x (ps.drop k) = (d, -1, 0)) (hvd : walkB d = true) :
    Calls Try.prog 7 #[.agg #[.slice A l.length c], .slice B ps.length dc, .int .u8 raw] w fun e w' => e = .returned (.bool true) ∧ Below w.heap.size w w' := by
  have hdk2 : ¬ k = dc := fun h => hdk h.symm
  have HALL := Lib.hid hall; clear hall
  have Hv := Lib.hid hv; clear hv
  have HALLX := Lib.hid hallx; clear hallx
  have HALLY := Lib.hid hally; clear hally
  have HVX := Lib.hid hvx; clear hvx
  have HVD := Lib.hid hvd; clear hvd
  have hsz0 : 0 < w.heap.size := World.block_lt_of_cell? w _ hg
  have hb0 := (Below.refl w.heap.size w).alloc (Nat.le_refl _) (.cells #[.slice A l.length c] 24)
  have HB0 := Lib.hid hb0; clear hb0
  have HR := Lib.hid hr; clear hr
  have HS := Lib.hid hs; clear hs
  have HG := Lib.hid hg; clear hg
  have HFI := Lib.hid hfit; clear hfit
  have HFP := Lib.hid hfp; clear hfp
  have HLI := Lib.hid hli; clear hli
  go_enter Try.func7, Try.ntmps7
  go_wp2_with fail
  refine (head_any _ m (step_cell HB0.out HG.out)).mono ?_
  rintro e w1 ⟨rfl, hb1⟩
  obtain ⟨hc, hf⟩ := bcell hb1
  have HB1 := Lib.hid hb1; clear hb1
  go_wp2_with fail
  refine (light_any l ps A B c dc _ ((HR.out.below HB0.out).below HB1.out) ((HS.out.below HB0.out).below HB1.out) hl hm HFI.out HFP.out).mono ?_
  rintro e w2 ⟨rfl, hb2⟩
  rw [HLI.out]
  have hb3 := HB1.out.trans (hb2.mono HB1.out.size)
  clear hc hf hb2 HB1
  obtain ⟨hc, hf⟩ := bcell hb3
  have HB2 := Lib.hid hb3; clear hb3
  go_wp2_with fail
  have HL := Lib.hid (light_facts HLI.out)
  have HLP := Lib.hid (light_ready HLI.out)
  have hla := all_any l ps A B c dc w2 ((HR.out.below HB0.out).below HB2.out) ((HS.out.below HB0.out).below HB2.out) (by have := HL.out.1; omega) hlc HL.out.2 (by have := HLP.out.1; omega) HLP.out.2 m (step_cell (HB0.out.trans (HB2.out.mono HB0.out.size)) HG.out)
  unfold Alls at hla
  rw [HALL.out] at hla
  refine hla.mono ?_
  rintro e w3 ⟨v, rfl, ⟨A', c', rfl, hr', hlc', -⟩, hb2⟩
  have hb3 := HB2.out.trans (hb2.mono HB2.out.size)
  clear hc hf hb2 HB2 hla
  obtain ⟨hc, hf⟩ := bcell hb3
  have HB3 := Lib.hid hb3; clear hb3
  have HR' := Lib.hid hr'; clear hr'
  have hz3 := HB3.out.size
  simp at hz3
  have z1 : w.heap.size < w3.heap.size := by omega
  have hl12 := HLP.out.1
  have hq1 : IntKind.i64.wrap ((ps.length : Int) + 1) = (ps.length : Int) + 1 := wrap_small _ (by omega) (by omega)
  have hq2 : ¬ (ps.length : Int) + 1 = 0 := by omega
  have hq3 : IntKind.i64.wrap raw = raw := wrap_small _ (by omega) (by omega)
  have hq4 : IntKind.i64.wrap (k : Int) = (k : Int) := wrap_small _ (by omega) (by omega)
  have hq5 : (0 : Int) ≤ k := by omega
  have hq6 : (k : Int) ≤ dc := by omega
  have hq7 : (k : Int) ≤ ps.length := by omega
  have hb4 := HB3.out.alloc (by simp; omega) (.cells #[.slice A' (d).length c'] 24)
  have K8 : (w3.alloc (.cells #[.slice A' (d).length c'] 24)).cell? ⟨w3.heap.size, 0, none⟩ = some (.slice A' (d).length c') := by simp [go_sem]
  have HD4 := Lib.hid (HR'.out.below ((Below.refl w3.heap.size w3).alloc (Nat.le_refl _) (.cells #[.slice A' (d).length c'] 24)))
  go_wp2_with fail
  generalize (w3.alloc (.cells #[.slice A' (d).length c'] 24)) = W4 at *
  have K3 : W4.cell? ⟨w.heap.size, 0, none⟩ = some (.slice A l.length c) := (hb4.cell (p := ⟨w.heap.size, 0, none⟩) (by simp)).trans (by simp [go_sem])
  have HW4 := Lib.hid (HB0.out.trans (hb4.mono HB0.out.size)); clear hb4 hc hf HB3
  have HR4 := Lib.hid (HR.out.below HW4.out)
  have HS4 := Lib.hid (HS.out.below HW4.out)
  have HG4 := Lib.hid (step_cell HW4.out HG.out)
  have y3 : w.heap.size < W4.heap.size := World.block_lt_of_cell? _ _ K3
  have y8 : w3.heap.size < W4.heap.size := World.block_lt_of_cell? _ _ K8
  have HSA : Hid (RdP W4 B (ps.take k ++ ps.drop k)) := Lib.hid (by have h := HS4.out; rw [List.take_append_drop]; exact h)
  have HSU : Hid (RdP W4 B (ps.take k)) := Lib.hid (Sl.prefix_ HSA.out)
  have HSD : Hid (RdP W4 (B.map (·.add (k * 15))) (ps.drop k)) := Lib.hid (by have h := Sl.rest_ HS4.out k dc hmc; rw [if_neg hdk] at h; exact h)
  go_cut [20, 21, 22] (fun v20 v21 v22 wc => ∃ (b : Nat) (A2 : Option Addr) (c2 : Nat), v20 = .pointer (some ⟨b, 0, none⟩) ∧ v21 = .int .i64 (-1) ∧ v22 = .int .i64 (0) ∧ wc.cell? ⟨b, 0, none⟩ = some (.slice A2 (x).length c2) ∧ RdI wc A2 (x) ∧ (x).length ≤ c2 ∧ Below W4.heap.size W4 wc)
  case first =>
    go_region_held3 (fun X => X.cell? ⟨w.heap.size, 0, none⟩ = some (.slice A l.length c)) (first | go_keep | (simp [go_sem, *]; done))
      (first | (go_at_call 21; refine (all_lit HALLX.out A B _ c dc _ (by simp; omega) (by first | exact HR4.out.below (Below.refl _ _).drew | exact HR4.out.below ((Below.refl _ _).drew.alloc (Nat.le_refl _) _)) (by first | exact HSU.out.below (Below.refl _ _).drew | exact HSU.out.below ((Below.refl _ _).drew.alloc (Nat.le_refl _) _)) (by have := HL.out.1; omega) hlc HL.out.2 (by simp; omega) (fun q hq => HLP.out.2 q (List.mem_of_mem_take hq)) m (by first | exact step_cell (Below.refl _ _).drew HG4.out | exact step_cell ((Below.refl _ _).drew.alloc (Nat.le_refl _) _) HG4.out)).mono ?_; rintro e w4 ⟨v, rfl, ⟨A2, c2, rfl, hr2, hlc2, hA2⟩, hb4⟩; obtain ⟨hc, hf⟩ := bcell hb4; have hblk := bblk hb4; simp at hc hf hblk; have hz4 := hb4.size; simp at hz4; have x1 : w.heap.size < w4.heap.size := (by omega)))
    · go_wp2_with fail
      go_meet
      case rel =>
        have q2 := hb4.size
        try simp at q2
        exact ⟨w4.heap.size, A2, c2, rfl, rfl, rfl, by simp [go_sem], hr2.below ((Below.refl _ _).alloc (Nat.le_refl _) _), hlc2, ((Below.refl W4.heap.size W4).drew.trans (hb4.mono (by simp))).alloc (by first | omega | (simp; omega)) _⟩
    · go_wp2_with fail
      go_meet
      case rel =>
        have q2 := hb4.size
        try simp at q2
        have hh : w4.cell? ⟨W4.heap.size, 0, none⟩ = some (.slice none 0 0) := (hb4.cell (p := ⟨W4.heap.size, 0, none⟩) (by simp)).trans (by simp [go_sem])
        refine ⟨W4.heap.size, A2, c2, rfl, rfl, rfl, World.cell?_setCell_same _ _ _ hh, Sl.keep hr2 (by simp) (fun b' o' hA _ => Below.heap_setCell _ _ _ _ ?_), hlc2, ?_⟩
        · have := hA2 b' o' hA
          simp at this ⊢
          omega
        · exact Below.setCell (p := ⟨W4.heap.size, 0, none⟩) (((Below.refl W4.heap.size W4).drew.alloc (by simp) _).trans (hb4.mono (by simp))) (Nat.le_refl _) _
  case' rest =>
    obtain ⟨b20, A20, c20, rfl, rfl, rfl, hcb, hrb, hlcb, hbw⟩ := hcut
    have K20 := hcb; clear hcb
    have HR20 := Lib.hid hrb; clear hrb
    have HW20 := Lib.hid hbw; clear hbw
    have HC20 := Lib.hid hlcb
    have HZ20 := Lib.hid (HW4.out.trans (HW20.out.mono HW4.out.size))
    have K8c := step_cell HW20.out K8
    have y8c := Nat.lt_of_lt_of_le y8 HW20.out.size
    have y20 : b20 < wc.heap.size := World.block_lt_of_cell? _ _ K20
    have HG20 := Lib.hid (step_cell HW20.out HG4.out)
    have HSE := Lib.hid (HSD.out.below HW20.out)
    clear K3 K8
    have : b20 < wc.heap.size := (by omega)
    have : ¬ b20 = wc.heap.size := (by omega)
    have : ¬ wc.heap.size = b20 := (by omega)
    go_wp2_with fail
    go_cut [23, 24, 25] (fun v23 v24 v25 wd => ∃ (b : Nat) (A2 : Option Addr) (c2 : Nat), v23 = .pointer (some ⟨b, 0, none⟩) ∧ v24 = .int .i64 (-1) ∧ v25 = .int .i64 (0) ∧ wd.cell? ⟨b, 0, none⟩ = some (.slice A2 (d).length c2) ∧ RdI wd A2 (d) ∧ (d).length ≤ c2 ∧ Below wc.heap.size wc wd)
    case first =>
      go_region_held3 (fun X => X.cell? ⟨b20, 0, none⟩ = some (.slice A20 x.length c20)) (first | go_keep | (simp [go_sem, *]; done))
        (first | (go_at_call 21; refine (all_lit HALLY.out A20 _ _ c20 _ _ (by first | (simp; done) | (simp; omega)) (by first | exact HR20.out.below (Below.refl _ _).drew | exact HR20.out.below ((Below.refl _ _).drew.alloc (Nat.le_refl _) _)) (by first | exact HSE.out.below (Below.refl _ _).drew | exact HSE.out.below ((Below.refl _ _).drew.alloc (Nat.le_refl _) _)) (by have := len_of_good HVX.out; omega) HC20.out (short_of_good HVX.out) (by simp; omega) (fun q hq => HLP.out.2 q (List.mem_of_mem_drop hq)) m (by first | exact step_cell (Below.refl _ _).drew HG20.out | exact step_cell ((Below.refl _ _).drew.alloc (Nat.le_refl _) _) HG20.out)).mono ?_; rintro e w4 ⟨v, rfl, ⟨A2, c2, rfl, hr2, hlc2, hA2⟩, hb4⟩; obtain ⟨hc, hf⟩ := bcell hb4; have hblk := bblk hb4; simp at hc hf hblk; have hz4 := hb4.size; simp at hz4; have : b20 < w4.heap.size := (by omega); have : ¬ b20 = w4.heap.size := (by omega); have : ¬ w4.heap.size = b20 := (by omega)))
      · go_wp2_with fail
        go_meet
        case rel =>
          have q2 := hb4.size
          try simp at q2
          exact ⟨w4.heap.size, A2, c2, rfl, rfl, rfl, by simp [go_sem], hr2.below ((Below.refl _ _).alloc (Nat.le_refl _) _), hlc2, ((Below.refl wc.heap.size wc).drew.trans (hb4.mono (by simp))).alloc (by first | omega | (simp; omega)) _⟩
      · go_wp2_with fail
        go_meet
        case rel =>
          have q2 := hb4.size
          try simp at q2
          have hh : w4.cell? ⟨wc.heap.size, 0, none⟩ = some (.slice none 0 0) := (hb4.cell (p := ⟨wc.heap.size, 0, none⟩) (by simp)).trans (by simp [go_sem])
          refine ⟨wc.heap.size, A2, c2, rfl, rfl, rfl, World.cell?_setCell_same _ _ _ hh, Sl.keep hr2 (by simp) (fun b' o' hA _ => Below.heap_setCell _ _ _ _ ?_), hlc2, ?_⟩
          · have := hA2 b' o' hA
            simp at this ⊢
            omega
          · exact Below.setCell (p := ⟨wc.heap.size, 0, none⟩) (((Below.refl wc.heap.size wc).drew.alloc (by simp) _).trans (hb4.mono (by simp))) (Nat.le_refl _) _
    case' rest =>
      obtain ⟨b23, A23, c23, rfl, rfl, rfl, hcb, hrb, hlcb, hbw⟩ := hcut
      have K23 := hcb; clear hcb
      have HR23 := Lib.hid hrb; clear hrb
      have HW23 := Lib.hid hbw; clear hbw
      have HC23 := Lib.hid hlcb
      have HZ23 := Lib.hid (HZ20.out.trans (HW23.out.mono HZ20.out.size))
      have K8d := step_cell HW23.out K8c
      have y8d := Nat.lt_of_lt_of_le y8c HW23.out.size
      have HD23 := Lib.hid ((HD4.out.below HW20.out).below HW23.out)
      clear K8c K20
      go_wp2_with fail
      refine (same_refl d A23 A' c23 c' _ HR23.out HD23.out (le_maxLen (by have := len_of_good HVD.out; omega))).mono ?_
      rintro e w8 ⟨rfl, hb8⟩
      have HB8 := Lib.hid (HZ23.out.trans (hb8.mono HZ23.out.size)); clear hb8
      go_wp2_with fail
      go_ret
      exact ⟨rfl, HB8.out⟩
set_option maxRecDepth 20000 in
set_option maxHeartbeats 4000000 in
theorem plists_e (l : List Item) (ps : List Patch) (A B : Option Addr) (c dc : Nat) (raw : Int) (w : World) (m : Int) (hr : RdI w A l) (hs : RdP w B ps) (hl : l.length ≤ maxLen) (hlc : l.length ≤ c) (hm : ps.length ≤ maxLen) (hmc : ps.length ≤ dc) (hdm : dc ≤ maxLen) (hraw : 0 ≤ raw ∧ raw ≤ 255) (hfit : ∀ x ∈ l, x.Fits) (hfp : ∀ q ∈ ps, q.Fits) (hg : w.cell? ⟨0, 0, none⟩ = some (.int .i64 m)) (hli : lightB l ps = true) (hv : walkB l = true) (x d : List Item) (hk : raw.tmod ((ps.length : Int) + 1) = (dc : Int)) (hkl : dc ≤ ps.length) (hall : allR l ps = (d, -1, 0))
    (hallx : allR l (ps.take dc) = (x, -1, 0)) (hvx : walkB x = true) (hally : allR x (ps.drop dc) = (d, -1, 0)) (hvd : walkB d = true) :
    Calls Try.prog 7 #[.agg #[.slice A l.length c], .slice B ps.length dc, .int .u8 raw] w fun e w' => e = .returned (.bool true) ∧ Below w.heap.size w w' := by
  have HALL := Lib.hid hall; clear hall
  have Hv := Lib.hid hv; clear hv
  have HALLX := Lib.hid hallx; clear hallx
  have HALLY := Lib.hid hally; clear hally
  have HVX := Lib.hid hvx; clear hvx
  have HVD := Lib.hid hvd; clear hvd
  have hsz0 : 0 < w.heap.size := World.block_lt_of_cell? w _ hg
  have hb0 := (Below.refl w.heap.size w).alloc (Nat.le_refl _) (.cells #[.slice A l.length c] 24)
  have HB0 := Lib.hid hb0; clear hb0
  have HR := Lib.hid hr; clear hr
  have HS := Lib.hid hs; clear hs
  have HG := Lib.hid hg; clear hg
  have HFI := Lib.hid hfit; clear hfit
  have HFP := Lib.hid hfp; clear hfp
  have HLI := Lib.hid hli; clear hli
  go_enter Try.func7, Try.ntmps7
  go_wp2_with fail
  refine (head_any _ m (step_cell HB0.out HG.out)).mono ?_
  rintro e w1 ⟨rfl, hb1⟩
  obtain ⟨hc, hf⟩ := bcell hb1
  have HB1 := Lib.hid hb1; clear hb1
  go_wp2_with fail
  refine (light_any l ps A B c dc _ ((HR.out.below HB0.out).below HB1.out) ((HS.out.below HB0.out).below HB1.out) hl hm HFI.out HFP.out).mono ?_
  rintro e w2 ⟨rfl, hb2⟩
  rw [HLI.out]
  have hb3 := HB1.out.trans (hb2.mono HB1.out.size)
  clear hc hf hb2 HB1
  obtain ⟨hc, hf⟩ := bcell hb3
  have HB2 := Lib.hid hb3; clear hb3
  go_wp2_with fail
  have HL := Lib.hid (light_facts HLI.out)
  have HLP := Lib.hid (light_ready HLI.out)
  have hla := all_any l ps A B c dc w2 ((HR.out.below HB0.out).below HB2.out) ((HS.out.below HB0.out).below HB2.out) (by have := HL.out.1; omega) hlc HL.out.2 (by have := HLP.out.1; omega) HLP.out.2 m (step_cell (HB0.out.trans (HB2.out.mono HB0.out.size)) HG.out)
  unfold Alls at hla
  rw [HALL.out] at hla
  refine hla.mono ?_
  rintro e w3 ⟨v, rfl, ⟨A', c', rfl, hr', hlc', -⟩, hb2⟩
  have hb3 := HB2.out.trans (hb2.mono HB2.out.size)
  clear hc hf hb2 HB2 hla
  obtain ⟨hc, hf⟩ := bcell hb3
  have HB3 := Lib.hid hb3; clear hb3
  have HR' := Lib.hid hr'; clear hr'
  have hz3 := HB3.out.size
  simp at hz3
  have z1 : w.heap.size < w3.heap.size := by omega
  have hl12 := HLP.out.1
  have hq1 : IntKind.i64.wrap ((ps.length : Int) + 1) = (ps.length : Int) + 1 := wrap_small _ (by omega) (by omega)
  have hq2 : ¬ (ps.length : Int) + 1 = 0 := by omega
  have hq3 : IntKind.i64.wrap raw = raw := wrap_small _ (by omega) (by omega)
  have hq4 : IntKind.i64.wrap (dc : Int) = (dc : Int) := wrap_small _ (by omega) (by omega)
  have hq5 : (0 : Int) ≤ dc := by omega
  have hq6 : (dc : Int) ≤ dc := by omega
  have hq7 : (dc : Int) ≤ ps.length := by omega
  have hb4 := HB3.out.alloc (by simp; omega) (.cells #[.slice A' (d).length c'] 24)
  have K8 : (w3.alloc (.cells #[.slice A' (d).length c'] 24)).cell? ⟨w3.heap.size, 0, none⟩ = some (.slice A' (d).length c') := by simp [go_sem]
  have HD4 := Lib.hid (HR'.out.below ((Below.refl w3.heap.size w3).alloc (Nat.le_refl _) (.cells #[.slice A' (d).length c'] 24)))
  go_wp2_with fail
  generalize (w3.alloc (.cells #[.slice A' (d).length c'] 24)) = W4 at *
  have K3 : W4.cell? ⟨w.heap.size, 0, none⟩ = some (.slice A l.length c) := (hb4.cell (p := ⟨w.heap.size, 0, none⟩) (by simp)).trans (by simp [go_sem])
  have HW4 := Lib.hid (HB0.out.trans (hb4.mono HB0.out.size)); clear hb4 hc hf HB3
  have HR4 := Lib.hid (HR.out.below HW4.out)
  have HS4 := Lib.hid (HS.out.below HW4.out)
  have HG4 := Lib.hid (step_cell HW4.out HG.out)
  have y3 : w.heap.size < W4.heap.size := World.block_lt_of_cell? _ _ K3
  have y8 : w3.heap.size < W4.heap.size := World.block_lt_of_cell? _ _ K8
  have HSA : Hid (RdP W4 B (ps.take dc ++ ps.drop dc)) := Lib.hid (by have h := HS4.out; rw [List.take_append_drop]; exact h)
  have HSU : Hid (RdP W4 B (ps.take dc)) := Lib.hid (Sl.prefix_ HSA.out)
  have HSD : Hid (RdP W4 (B) (ps.drop dc)) := Lib.hid (by have h := Sl.rest_ HS4.out dc dc hmc; rw [if_pos rfl] at h; exact h)
  go_cut [20, 21, 22] (fun v20 v21 v22 wc => ∃ (b : Nat) (A2 : Option Addr) (c2 : Nat), v20 = .pointer (some ⟨b, 0, none⟩) ∧ v21 = .int .i64 (-1) ∧ v22 = .int .i64 (0) ∧ wc.cell? ⟨b, 0, none⟩ = some (.slice A2 (x).length c2) ∧ RdI wc A2 (x) ∧ (x).length ≤ c2 ∧ Below W4.heap.size W4 wc)
  case first =>
    go_region_held3 (fun X => X.cell? ⟨w.heap.size, 0, none⟩ = some (.slice A l.length c)) (first | go_keep | (simp [go_sem, *]; done))
      (first | (go_at_call 21; refine (all_lit HALLX.out A B _ c dc _ (by simp; omega) (by first | exact HR4.out.below (Below.refl _ _).drew | exact HR4.out.below ((Below.refl _ _).drew.alloc (Nat.le_refl _) _)) (by first | exact HSU.out.below (Below.refl _ _).drew | exact HSU.out.below ((Below.refl _ _).drew.alloc (Nat.le_refl _) _)) (by have := HL.out.1; omega) hlc HL.out.2 (by simp; omega) (fun q hq => HLP.out.2 q (List.mem_of_mem_take hq)) m (by first | exact step_cell (Below.refl _ _).drew HG4.out | exact step_cell ((Below.refl _ _).drew.alloc (Nat.le_refl _) _) HG4.out)).mono ?_; rintro e w4 ⟨v, rfl, ⟨A2, c2, rfl, hr2, hlc2, hA2⟩, hb4⟩; obtain ⟨hc, hf⟩ := bcell hb4; have hblk := bblk hb4; simp at hc hf hblk; have hz4 := hb4.size; simp at hz4; have x1 : w.heap.size < w4.heap.size := (by omega)))
    · go_wp2_with fail
      go_meet
      case rel =>
        have q2 := hb4.size
        try simp at q2
        exact ⟨w4.heap.size, A2, c2, rfl, rfl, rfl, by simp [go_sem], hr2.below ((Below.refl _ _).alloc (Nat.le_refl _) _), hlc2, ((Below.refl W4.heap.size W4).drew.trans (hb4.mono (by simp))).alloc (by first | omega | (simp; omega)) _⟩
    · go_wp2_with fail
      go_meet
      case rel =>
        have q2 := hb4.size
        try simp at q2
        have hh : w4.cell? ⟨W4.heap.size, 0, none⟩ = some (.slice none 0 0) := (hb4.cell (p := ⟨W4.heap.size, 0, none⟩) (by simp)).trans (by simp [go_sem])
        refine ⟨W4.heap.size, A2, c2, rfl, rfl, rfl, World.cell?_setCell_same _ _ _ hh, Sl.keep hr2 (by simp) (fun b' o' hA _ => Below.heap_setCell _ _ _ _ ?_), hlc2, ?_⟩
        · have := hA2 b' o' hA
          simp at this ⊢
          omega
        · exact Below.setCell (p := ⟨W4.heap.size, 0, none⟩) (((Below.refl W4.heap.size W4).drew.alloc (by simp) _).trans (hb4.mono (by simp))) (Nat.le_refl _) _
  case' rest =>
    obtain ⟨b20, A20, c20, rfl, rfl, rfl, hcb, hrb, hlcb, hbw⟩ := hcut
    have K20 := hcb; clear hcb
    have HR20 := Lib.hid hrb; clear hrb
    have HW20 := Lib.hid hbw; clear hbw
    have HC20 := Lib.hid hlcb
    have HZ20 := Lib.hid (HW4.out.trans (HW20.out.mono HW4.out.size))
    have K8c := step_cell HW20.out K8
    have y8c := Nat.lt_of_lt_of_le y8 HW20.out.size
    have y20 : b20 < wc.heap.size := World.block_lt_of_cell? _ _ K20
    have HG20 := Lib.hid (step_cell HW20.out HG4.out)
    have HSE := Lib.hid (HSD.out.below HW20.out)
    clear K3 K8
    have : b20 < wc.heap.size := (by omega)
    have : ¬ b20 = wc.heap.size := (by omega)
    have : ¬ wc.heap.size = b20 := (by omega)
    go_wp2_with fail
    go_cut [23, 24, 25] (fun v23 v24 v25 wd => ∃ (b : Nat) (A2 : Option Addr) (c2 : Nat), v23 = .pointer (some ⟨b, 0, none⟩) ∧ v24 = .int .i64 (-1) ∧ v25 = .int .i64 (0) ∧ wd.cell? ⟨b, 0, none⟩ = some (.slice A2 (d).length c2) ∧ RdI wd A2 (d) ∧ (d).length ≤ c2 ∧ Below wc.heap.size wc wd)
    case first =>
      go_region_held3 (fun X => X.cell? ⟨b20, 0, none⟩ = some (.slice A20 x.length c20)) (first | go_keep | (simp [go_sem, *]; done))
        (first | (go_at_call 21; refine (all_lit HALLY.out A20 _ _ c20 _ _ (by first | (simp; done) | (simp; omega)) (by first | exact HR20.out.below (Below.refl _ _).drew | exact HR20.out.below ((Below.refl _ _).drew.alloc (Nat.le_refl _) _)) (by first | exact HSE.out.below (Below.refl _ _).drew | exact HSE.out.below ((Below.refl _ _).drew.alloc (Nat.le_refl _) _)) (by have := len_of_good HVX.out; omega) HC20.out (short_of_good HVX.out) (by simp; omega) (fun q hq => HLP.out.2 q (List.mem_of_mem_drop hq)) m (by first | exact step_cell (Below.refl _ _).drew HG20.out | exact step_cell ((Below.refl _ _).drew.alloc (Nat.le_refl _) _) HG20.out)).mono ?_; rintro e w4 ⟨v, rfl, ⟨A2, c2, rfl, hr2, hlc2, hA2⟩, hb4⟩; obtain ⟨hc, hf⟩ := bcell hb4; have hblk := bblk hb4; simp at hc hf hblk; have hz4 := hb4.size; simp at hz4; have : b20 < w4.heap.size := (by omega); have : ¬ b20 = w4.heap.size := (by omega); have : ¬ w4.heap.size = b20 := (by omega)))
      · go_wp2_with fail
        go_meet
        case rel =>
          have q2 := hb4.size
          try simp at q2
          exact ⟨w4.heap.size, A2, c2, rfl, rfl, rfl, by simp [go_sem], hr2.below ((Below.refl _ _).alloc (Nat.le_refl _) _), hlc2, ((Below.refl wc.heap.size wc).drew.trans (hb4.mono (by simp))).alloc (by first | omega | (simp; omega)) _⟩
      · go_wp2_with fail
        go_meet
        case rel =>
          have q2 := hb4.size
          try simp at q2
          have hh : w4.cell? ⟨wc.heap.size, 0, none⟩ = some (.slice none 0 0) := (hb4.cell (p := ⟨wc.heap.size, 0, none⟩) (by simp)).trans (by simp [go_sem])
          refine ⟨wc.heap.size, A2, c2, rfl, rfl, rfl, World.cell?_setCell_same _ _ _ hh, Sl.keep hr2 (by simp) (fun b' o' hA _ => Below.heap_setCell _ _ _ _ ?_), hlc2, ?_⟩
          · have := hA2 b' o' hA
            simp at this ⊢
            omega
          · exact Below.setCell (p := ⟨wc.heap.size, 0, none⟩) (((Below.refl wc.heap.size wc).drew.alloc (by simp) _).trans (hb4.mono (by simp))) (Nat.le_refl _) _
    case' rest =>
      obtain ⟨b23, A23, c23, rfl, rfl, rfl, hcb, hrb, hlcb, hbw⟩ := hcut
      have K23 := hcb; clear hcb
      have HR23 := Lib.hid hrb; clear hrb
      have HW23 := Lib.hid hbw; clear hbw
      have HC23 := Lib.hid hlcb
      have HZ23 := Lib.hid (HZ20.out.trans (HW23.out.mono HZ20.out.size))
      have K8d := step_cell HW23.out K8c
      have y8d := Nat.lt_of_lt_of_le y8c HW23.out.size
      have HD23 := Lib.hid ((HD4.out.below HW20.out).below HW23.out)
      clear K8c K20
      go_wp2_with fail
      refine (same_refl d A23 A' c23 c' _ HR23.out HD23.out (le_maxLen (by have := len_of_good HVD.out; omega))).mono ?_
      rintro e w8 ⟨rfl, hb8⟩
      have HB8 := Lib.hid (HZ23.out.trans (hb8.mono HZ23.out.size)); clear hb8
      go_wp2_with fail
      go_ret
      exact ⟨rfl, HB8.out⟩
theorem plists_any (l : List Item) (ps : List Patch) (A B : Option Addr) (c dc : Nat) (raw : Int) (w : World) (m : Int) (hr : RdI w A l) (hs : RdP w B ps) (hl : l.length ≤ maxLen) (hlc : l.length ≤ c) (hm : ps.length ≤ maxLen) (hmc : ps.length ≤ dc) (hdm : dc ≤ maxLen) (hraw : 0 ≤ raw ∧ raw ≤ 255) (hfit : ∀ x ∈ l, x.Fits) (hfp : ∀ q ∈ ps, q.Fits) (hg : w.cell? ⟨0, 0, none⟩ = some (.int .i64 m)) :
    Calls Try.prog 7 #[.agg #[.slice A l.length c], .slice B ps.length dc, .int .u8 raw] w fun e w' => e = .returned (.bool true) ∧ Below w.heap.size w w' := by
  cases hli : lightB l ps with
  | false => exact plists_a l ps A B c dc raw w m hr hs hl hlc hm hmc hdm hraw hfit hfp hg hli
  | true =>
    cases hv : walkB l with
    | false => exact plists_b l ps A B c dc raw w m hr hs hl hlc hm hmc hdm hraw hfit hfp hg hli hv
    | true =>
      by_cases he : (allF l ps 0).2.2 = 0
      · have hk0 : 0 ≤ raw.tmod ((ps.length : Int) + 1) := Int.tmod_nonneg _ hraw.1
        have hk1 : raw.tmod ((ps.length : Int) + 1) < (ps.length : Int) + 1 := Int.tmod_lt_of_pos _ (by omega)
        obtain ⟨k, hk⟩ := Int.eq_ofNat_of_zero_le hk0
        obtain ⟨x, d, h1, h2, h3, h4, h5⟩ := lists_ok hv he k
        have hkl : k ≤ ps.length := by omega
        by_cases hdk : dc = k
        · subst hdk
          exact plists_e l ps A B c dc raw w m hr hs hl hlc hm hmc hdm hraw hfit hfp hg hli hv x d hk hkl h1 h2 h3 h4 h5
        · exact plists_d l ps A B c dc raw w m hr hs hl hlc hm hmc hdm hraw hfit hfp hg hli hv k x d hk hkl hdk h1 h2 h3 h4 h5
      · obtain ⟨u, p, t, r, er, hps, h0, h1, h2, h3, h4, h5, h6⟩ := lists_err hv he
        exact plists_c l ps A B c dc raw w m hr hs hl hlc hm hmc hdm hraw hfit hfp hg hli hv u p t r er hps h0 h1 h2 h3 h4 h5 h6
end Go.Proofs.Ytkdcenbommhnoaa
