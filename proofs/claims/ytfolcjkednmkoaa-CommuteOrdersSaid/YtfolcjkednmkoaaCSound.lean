/- The law CommuteSound. -/
import Derived.Test.YtfolcjkednmkoaaCHead
import Derived.Test.YtfolcjkednmkoaaJKit
import Derived.Test.YtfolcjkednmkoaaCommon
set_option linter.unusedVariables false
set_option linter.unusedSimpArgs false
namespace Go.Proofs.Ytfolcjkednmkoaa
open Go.RowKit
theorem light_lit {l : List Item} {ps : List Patch} {r : Bool} (h : lightB l ps = r) (A B : Option Addr) (c n d : Nat) (w : World) (hn : n = ps.length) (hr : RdI w A l) (hs : RdP w B ps) (hl : l.length ≤ maxLen) (hfit : ∀ x ∈ l, x.Fits) (hfp : ps.length ≤ maxLen ∧ ∀ p ∈ ps, p.Fits) :
    Calls Try.prog 9 #[.agg #[.slice A l.length c], .slice B n d] w fun e w' => e = .returned (.bool r) ∧ Below w.heap.size w w' := by
  subst hn h
  exact light_any l ps A B c d w hr hs hl hfp.1 hfit hfp.2
theorem two_fits {a b : Patch} (ha : a.Fits) (hb : b.Fits) : [a, b].length ≤ maxLen ∧ ∀ p ∈ [a, b], p.Fits := by
  refine ⟨by simp [maxLen], fun p hp => ?_⟩
  simp at hp
  rcases hp with rfl | rfl <;> assumption
theorem few_ready {p : Patch} (h : fewB p = true) : p.Ready := by
  obtain ⟨a, b, d⟩ := few_facts h
  exact ⟨a, b, d⟩
theorem two_light {l : List Item} {a b : Patch} (h : lightB l [a, b] = true) : l.length ≤ 30 ∧ (∀ x ∈ l, x.Short) ∧ a.Ready ∧ b.Ready := by
  obtain ⟨h1, h2⟩ := light_facts h
  have h3 := (light_pats h).2
  exact ⟨h1, h2, few_ready (h3 a (by simp)), few_ready (h3 b (by simp))⟩
theorem applyL_len (l : List Item) (p : Patch) (h : l.length ≤ 100000) : (applyF l p).1.length ≤ 100000 := by
  by_cases h0 : (applyF l p).2 = 0
  · have := len_of_good ((kept_law h0).good); omega
  · rw [apply_err h0]; simp
theorem allL_len : ∀ (ps : List Patch) (l : List Item) (i : Nat), l.length ≤ 100000 → (allF l ps i).1.length ≤ 100000
  | [], l, i, h => h
  | p :: r, l, i, h => by
    unfold allF
    by_cases h0 : (applyF l p).2 = 0
    · rw [if_pos h0]
      exact allL_len r _ _ (applyL_len l p h)
    · rw [if_neg h0]; simp
theorem allRL_len (l : List Item) (ps : List Patch) (h : l.length ≤ 100000) : (allR l ps).1.length ≤ 100000 := by
  unfold allR
  split
  · exact allL_len ps l 0 h
  · simp
theorem same_lit {r s : List Item} (h : r = s) (A B : Option Addr) (n k c d : Nat) (w : World) (hn : n = r.length) (hk : k = s.length) (hr : RdI w A r) (hs : RdI w B s) (hl : r.length ≤ 100000) :
    Calls Try.prog 13 #[.agg #[.slice A n c], .agg #[.slice B k d]] w fun e w' => e = .returned (.bool true) ∧ Below w.heap.size w w' := by
  subst hn hk h
  exact same_refl r A B c d w hr hs (le_maxLen (by omega))
set_option maxRecDepth 20000 in
set_option maxHeartbeats 8000000 in
theorem csound_a (l : List Item) (A : Option Addr) (c : Nat) (a b : Patch) (w : World) (m : Int) (hr : RdI w A l) (hl : l.length ≤ maxLen) (hlc : l.length ≤ c) (hfit : ∀ x ∈ l, x.Fits) (hpa : a.Fits) (hpb : b.Fits) (hg : w.cell? ⟨0, 0, none⟩ = some (.int .i64 m)) (hli : lightB l [a, b] = false) : Calls Try.prog 3 #[.agg #[.slice A l.length c], a.agg, b.agg] w fun e w' => e = .returned (.bool true) ∧ Below w.heap.size w w' := by
  have HR := Lib.hid hr; clear hr
  have HG := Lib.hid hg; clear hg
  have HFI := Lib.hid hfit; clear hfit
  have HLI := Lib.hid hli; clear hli
  have HB0 : Hid (Below w.heap.size w ((((w.alloc (.cells #[.slice A l.length c] 24)).alloc (.cells (patCs a) 28)).alloc (.cells (patCs b) 28)))) := Lib.hid ((((Below.refl w.heap.size w).alloc (Nat.le_refl _) (.cells #[.slice A l.length c] 24)).alloc (by simp) (.cells (patCs a) 28)).alloc (by simp; omega) (.cells (patCs b) 28))
  have C0 : ((((w.alloc (.cells #[.slice A l.length c] 24)).alloc (.cells (patCs a) 28)).alloc (.cells (patCs b) 28))).cell? ⟨w.heap.size, 0, none⟩ = some (.slice A l.length c) := by simp [go_sem]
  have PA0 : ((((w.alloc (.cells #[.slice A l.length c] 24)).alloc (.cells (patCs a) 28)).alloc (.cells (patCs b) 28))).blk (w.heap.size + 1) = some (.cells (patCs a) 28 (0, 0)) := by simp [go_sem]
  have PB0 : ((((w.alloc (.cells #[.slice A l.length c] 24)).alloc (.cells (patCs a) 28)).alloc (.cells (patCs b) 28))).blk (w.heap.size + 1 + 1) = some (.cells (patCs b) 28 (0, 0)) := by simp [go_sem]
  go_enter Try.func3, Try.ntmps3
  go_wp2_with fail
  refine (head20_any _ m (gcell HB0.out HG.out)).mono ?_
  rintro e w1 ⟨rfl, hb1⟩
  have hx1 := hb1
  have C1 := keepw hx1 C0
  have qC1 := World.block_lt_of_cell? _ _ C1
  have PA1 := rkeepk hx1 PA0
  have qPA1 := lt_of_heap PA1
  have PB1 := rkeepk hx1 PB0
  have qPB1 := lt_of_heap PB1
  have HB1 := Lib.hid (chain2 HB0.out hx1)
  clear hx1 hb1 C0 PA0 PB0 
  go_wp2_with fail
  have hbl := bl1 HB1.out (.cells (twoCs a b) 28)
  refine (light_lit HLI.out A _ c 2 2 _ rfl (HR.out.below hbl) (RdP.lit2 _ a b _ (by simp)) hl HFI.out (two_fits hpa hpb)).mono ?_
  rintro e w2 ⟨rfl, hb2⟩
  clear hbl
  have hx2 := (step_below hb2)
  have C2 := keepw hx2 C1
  have qC2 := World.block_lt_of_cell? _ _ C2
  have PA2 := rkeepk hx2 PA1
  have qPA2 := lt_of_heap PA2
  have PB2 := rkeepk hx2 PB1
  have qPB2 := lt_of_heap PB2
  have HB2 := Lib.hid (chain2 HB1.out hx2)
  clear hx2 hb2 C1 qC1 PA1 qPA1 PB1 qPB1 
  go_wp2_with fail
  go_ret
  exact ⟨rfl, HB2.out⟩
set_option maxRecDepth 20000 in
set_option maxHeartbeats 8000000 in
theorem csound_b (l : List Item) (A : Option Addr) (c : Nat) (a b : Patch) (w : World) (m : Int) (hr : RdI w A l) (hl : l.length ≤ maxLen) (hlc : l.length ≤ c) (hfit : ∀ x ∈ l, x.Fits) (hpa : a.Fits) (hpb : b.Fits) (hg : w.cell? ⟨0, 0, none⟩ = some (.int .i64 m)) (hli : lightB l [a, b] = true) (hcc : commF a b = false) (hcd : commF b a = false) : Calls Try.prog 3 #[.agg #[.slice A l.length c], a.agg, b.agg] w fun e w' => e = .returned (.bool true) ∧ Below w.heap.size w w' := by
  obtain ⟨hl30, hsh, ra, rb⟩ := two_light hli
  have HSH := Lib.hid hsh; clear hsh
  have HR := Lib.hid hr; clear hr
  have HG := Lib.hid hg; clear hg
  have HFI := Lib.hid hfit; clear hfit
  have HLI := Lib.hid hli; clear hli
  have HB0 : Hid (Below w.heap.size w ((((w.alloc (.cells #[.slice A l.length c] 24)).alloc (.cells (patCs a) 28)).alloc (.cells (patCs b) 28)))) := Lib.hid ((((Below.refl w.heap.size w).alloc (Nat.le_refl _) (.cells #[.slice A l.length c] 24)).alloc (by simp) (.cells (patCs a) 28)).alloc (by simp; omega) (.cells (patCs b) 28))
  have C0 : ((((w.alloc (.cells #[.slice A l.length c] 24)).alloc (.cells (patCs a) 28)).alloc (.cells (patCs b) 28))).cell? ⟨w.heap.size, 0, none⟩ = some (.slice A l.length c) := by simp [go_sem]
  have PA0 : ((((w.alloc (.cells #[.slice A l.length c] 24)).alloc (.cells (patCs a) 28)).alloc (.cells (patCs b) 28))).blk (w.heap.size + 1) = some (.cells (patCs a) 28 (0, 0)) := by simp [go_sem]
  have PB0 : ((((w.alloc (.cells #[.slice A l.length c] 24)).alloc (.cells (patCs a) 28)).alloc (.cells (patCs b) 28))).blk (w.heap.size + 1 + 1) = some (.cells (patCs b) 28 (0, 0)) := by simp [go_sem]
  go_enter Try.func3, Try.ntmps3
  go_wp2_with fail
  refine (head20_any _ m (gcell HB0.out HG.out)).mono ?_
  rintro e w1 ⟨rfl, hb1⟩
  have hx1 := hb1
  have C1 := keepw hx1 C0
  have qC1 := World.block_lt_of_cell? _ _ C1
  have PA1 := rkeepk hx1 PA0
  have qPA1 := lt_of_heap PA1
  have PB1 := rkeepk hx1 PB0
  have qPB1 := lt_of_heap PB1
  have HB1 := Lib.hid (chain2 HB0.out hx1)
  clear hx1 hb1 C0 PA0 PB0 
  go_wp2_with fail
  have hbl := bl1 HB1.out (.cells (twoCs a b) 28)
  refine (light_lit HLI.out A _ c 2 2 _ rfl (HR.out.below hbl) (RdP.lit2 _ a b _ (by simp)) hl HFI.out (two_fits hpa hpb)).mono ?_
  rintro e w2 ⟨rfl, hb2⟩
  clear hbl
  have hx2 := (step_below hb2)
  have C2 := keepw hx2 C1
  have qC2 := World.block_lt_of_cell? _ _ C2
  have PA2 := rkeepk hx2 PA1
  have qPA2 := lt_of_heap PA2
  have PB2 := rkeepk hx2 PB1
  have qPB2 := lt_of_heap PB2
  have HB2 := Lib.hid (chain2 HB1.out hx2)
  clear hx2 hb2 C1 qC1 PA1 qPA1 PB1 qPB1 
  have hco1 := fun W h => Lib.hid (comm_lit hcc ra rb W m (gcell (HB2.out.trans (Below.mono h HB2.out.size)) HG.out))
  have hco2 := fun W h => Lib.hid (comm_lit hcd rb ra W m (gcell (HB2.out.trans (Below.mono h HB2.out.size)) HG.out))
  go_upto_region 4 with fail
  go_cut [28] (fun v28 wc => v28 = .bool false ∧ Below w2.heap.size w2 wc)
  case first =>
    refine wp_region_grew (by kernel_rfl) (by as_aux_lemma => kernel_rfl) ?_
    repeat (go_big_quiet_step (first | with_reducible exact Calls_grew (hco1 _ (grew_below _ _)).out | with_reducible exact Calls_grew (hco2 _ (grew_below _ _)).out))
    refine wpQuiet_nil ?_
    rintro _ ⟨W, rfl⟩
    go_wp2_with fail
    go_meet
    case rel => exact ⟨rfl, grew_below _ _⟩
  case rest =>
  obtain ⟨rfl, hb3⟩ := hcut
  obtain ⟨w3, hw3⟩ : ∃ x, x = wc := ⟨_, rfl⟩
  subst hw3
  clear hco1 hco2
  have hx3 := hb3
  have C3 := keepw hx3 C2
  have qC3 := World.block_lt_of_cell? _ _ C3
  have PA3 := rkeepk hx3 PA2
  have qPA3 := lt_of_heap PA3
  have PB3 := rkeepk hx3 PB2
  have qPB3 := lt_of_heap PB3
  have HB3 := Lib.hid (chain2 HB2.out hx3)
  clear hx3 hb3 C2 qC2 PA2 qPA2 PB2 qPB2 
  go_wp2_with fail
  refine (comm_lit hcc ra rb _ m (gcell HB3.out HG.out)).mono ?_
  rintro e w4 ⟨rfl, hb4⟩
  have hx4 := hb4
  have C4 := keepw hx4 C3
  have qC4 := World.block_lt_of_cell? _ _ C4
  have PA4 := rkeepk hx4 PA3
  have qPA4 := lt_of_heap PA4
  have PB4 := rkeepk hx4 PB3
  have qPB4 := lt_of_heap PB4
  have HB4 := Lib.hid (chain2 HB3.out hx4)
  clear hx4 hb4 C3 qC3 PA3 qPA3 PB3 qPB3 
  go_wp2_with fail
  go_ret
  exact ⟨rfl, HB4.out⟩
set_option maxRecDepth 20000 in
set_option maxHeartbeats 8000000 in
theorem csound_c (l : List Item) (A : Option Addr) (c : Nat) (a b : Patch) (w : World) (m : Int) (hr : RdI w A l) (hl : l.length ≤ maxLen) (hlc : l.length ≤ c) (hfit : ∀ x ∈ l, x.Fits) (hpa : a.Fits) (hpb : b.Fits) (hg : w.cell? ⟨0, 0, none⟩ = some (.int .i64 m)) (hli : lightB l [a, b] = true) (hcc : commF a b = true) (hcd : commF b a = true) (hv : walkB l = false) : Calls Try.prog 3 #[.agg #[.slice A l.length c], a.agg, b.agg] w fun e w' => e = .returned (.bool true) ∧ Below w.heap.size w w' := by
  have HV := Lib.hid hv; clear hv
  obtain ⟨hl30, hsh, ra, rb⟩ := two_light hli
  have HSH := Lib.hid hsh; clear hsh
  have HR := Lib.hid hr; clear hr
  have HG := Lib.hid hg; clear hg
  have HFI := Lib.hid hfit; clear hfit
  have HLI := Lib.hid hli; clear hli
  have HB0 : Hid (Below w.heap.size w ((((w.alloc (.cells #[.slice A l.length c] 24)).alloc (.cells (patCs a) 28)).alloc (.cells (patCs b) 28)))) := Lib.hid ((((Below.refl w.heap.size w).alloc (Nat.le_refl _) (.cells #[.slice A l.length c] 24)).alloc (by simp) (.cells (patCs a) 28)).alloc (by simp; omega) (.cells (patCs b) 28))
  have C0 : ((((w.alloc (.cells #[.slice A l.length c] 24)).alloc (.cells (patCs a) 28)).alloc (.cells (patCs b) 28))).cell? ⟨w.heap.size, 0, none⟩ = some (.slice A l.length c) := by simp [go_sem]
  have PA0 : ((((w.alloc (.cells #[.slice A l.length c] 24)).alloc (.cells (patCs a) 28)).alloc (.cells (patCs b) 28))).blk (w.heap.size + 1) = some (.cells (patCs a) 28 (0, 0)) := by simp [go_sem]
  have PB0 : ((((w.alloc (.cells #[.slice A l.length c] 24)).alloc (.cells (patCs a) 28)).alloc (.cells (patCs b) 28))).blk (w.heap.size + 1 + 1) = some (.cells (patCs b) 28 (0, 0)) := by simp [go_sem]
  go_enter Try.func3, Try.ntmps3
  go_wp2_with fail
  refine (head20_any _ m (gcell HB0.out HG.out)).mono ?_
  rintro e w1 ⟨rfl, hb1⟩
  have hx1 := hb1
  have C1 := keepw hx1 C0
  have qC1 := World.block_lt_of_cell? _ _ C1
  have PA1 := rkeepk hx1 PA0
  have qPA1 := lt_of_heap PA1
  have PB1 := rkeepk hx1 PB0
  have qPB1 := lt_of_heap PB1
  have HB1 := Lib.hid (chain2 HB0.out hx1)
  clear hx1 hb1 C0 PA0 PB0 
  go_wp2_with fail
  have hbl := bl1 HB1.out (.cells (twoCs a b) 28)
  refine (light_lit HLI.out A _ c 2 2 _ rfl (HR.out.below hbl) (RdP.lit2 _ a b _ (by simp)) hl HFI.out (two_fits hpa hpb)).mono ?_
  rintro e w2 ⟨rfl, hb2⟩
  clear hbl
  have hx2 := (step_below hb2)
  have C2 := keepw hx2 C1
  have qC2 := World.block_lt_of_cell? _ _ C2
  have PA2 := rkeepk hx2 PA1
  have qPA2 := lt_of_heap PA2
  have PB2 := rkeepk hx2 PB1
  have qPB2 := lt_of_heap PB2
  have HB2 := Lib.hid (chain2 HB1.out hx2)
  clear hx2 hb2 C1 qC1 PA1 qPA1 PB1 qPB1 
  have hco1 := fun W h => Lib.hid (comm_lit hcc ra rb W m (gcell (HB2.out.trans (Below.mono h HB2.out.size)) HG.out))
  have hco2 := fun W h => Lib.hid (comm_lit hcd rb ra W m (gcell (HB2.out.trans (Below.mono h HB2.out.size)) HG.out))
  go_upto_region 4 with fail
  go_cut [28] (fun v28 wc => v28 = .bool false ∧ Below w2.heap.size w2 wc)
  case first =>
    refine wp_region_grew (by kernel_rfl) (by as_aux_lemma => kernel_rfl) ?_
    repeat (go_big_quiet_step (first | with_reducible exact Calls_grew (hco1 _ (grew_below _ _)).out | with_reducible exact Calls_grew (hco2 _ (grew_below _ _)).out))
    refine wpQuiet_nil ?_
    rintro _ ⟨W, rfl⟩
    go_wp2_with fail
    go_meet
    case rel => exact ⟨rfl, grew_below _ _⟩
  case rest =>
  obtain ⟨rfl, hb3⟩ := hcut
  obtain ⟨w3, hw3⟩ : ∃ x, x = wc := ⟨_, rfl⟩
  subst hw3
  clear hco1 hco2
  have hx3 := hb3
  have C3 := keepw hx3 C2
  have qC3 := World.block_lt_of_cell? _ _ C3
  have PA3 := rkeepk hx3 PA2
  have qPA3 := lt_of_heap PA3
  have PB3 := rkeepk hx3 PB2
  have qPB3 := lt_of_heap PB3
  have HB3 := Lib.hid (chain2 HB2.out hx3)
  clear hx3 hb3 C2 qC2 PA2 qPA2 PB2 qPB2 
  go_wp2_with fail
  refine (comm_lit hcc ra rb _ m (gcell HB3.out HG.out)).mono ?_
  rintro e w4 ⟨rfl, hb4⟩
  have hx4 := hb4
  have C4 := keepw hx4 C3
  have qC4 := World.block_lt_of_cell? _ _ C4
  have PA4 := rkeepk hx4 PA3
  have qPA4 := lt_of_heap PA4
  have PB4 := rkeepk hx4 PB3
  have qPB4 := lt_of_heap PB4
  have HB4 := Lib.hid (chain2 HB3.out hx4)
  clear hx4 hb4 C3 qC3 PA3 qPA3 PB3 qPB3 
  go_wp2_with fail
  refine (valid_any l A c _ (HR.out.below HB4.out) (by omega) HSH.out).mono ?_
  rintro e w5 ⟨rfl, hb5⟩
  rw [HV.out]
  have hx5 := hb5
  have C5 := keepw hx5 C4
  have qC5 := World.block_lt_of_cell? _ _ C5
  have PA5 := rkeepk hx5 PA4
  have qPA5 := lt_of_heap PA5
  have PB5 := rkeepk hx5 PB4
  have qPB5 := lt_of_heap PB5
  have HB5 := Lib.hid (chain2 HB4.out hx5)
  clear hx5 hb5 C4 qC4 PA4 qPA4 PB4 qPB4 
  go_wp2_with fail
  go_ret
  exact ⟨rfl, HB5.out⟩
set_option maxRecDepth 20000 in
set_option maxHeartbeats 8000000 in
theorem csound_d (l : List Item) (A : Option Addr) (c : Nat) (a b : Patch) (w : World) (m : Int) (hr : RdI w A l) (hl : l.length ≤ maxLen) (hlc : l.length ≤ c) (hfit : ∀ x ∈ l, x.Fits) (hpa : a.Fits) (hpb : b.Fits) (hg : w.cell? ⟨0, 0, none⟩ = some (.int .i64 m)) (hli : lightB l [a, b] = true) (hcc : commF a b = true) (hcd : commF b a = true) (hv : walkB l = true) (d d2 : List Item) (i0 i1 er fr : Int) (hal : allR l [a, b] = (d, i0, er)) (ham : allR l [b, a] = (d2, i1, fr)) (hdd : d = d2) (q : Bool) (he : (er == 0) = q) (hf : (fr == 0) = q) : Calls Try.prog 3 #[.agg #[.slice A l.length c], a.agg, b.agg] w fun e w' => e = .returned (.bool true) ∧ Below w.heap.size w w' := by
  have HV := Lib.hid hv; clear hv
  have HAL := Lib.hid hal
  have HAM := Lib.hid ham
  have HDD := Lib.hid hdd
  have hdl : d.length ≤ 100000 := by have := allRL_len l [a, b] (by have := (two_light hli).1; omega); rw [hal] at this; exact this
  clear hal ham hdd
  cases q
  all_goals
    obtain ⟨hl30, hsh, ra, rb⟩ := two_light hli
    have HSH := Lib.hid hsh; clear hsh
    have HR := Lib.hid hr; clear hr
    have HG := Lib.hid hg; clear hg
    have HFI := Lib.hid hfit; clear hfit
    have HLI := Lib.hid hli; clear hli
    have HB0 : Hid (Below w.heap.size w ((((w.alloc (.cells #[.slice A l.length c] 24)).alloc (.cells (patCs a) 28)).alloc (.cells (patCs b) 28)))) := Lib.hid ((((Below.refl w.heap.size w).alloc (Nat.le_refl _) (.cells #[.slice A l.length c] 24)).alloc (by simp) (.cells (patCs a) 28)).alloc (by simp; omega) (.cells (patCs b) 28))
    have C0 : ((((w.alloc (.cells #[.slice A l.length c] 24)).alloc (.cells (patCs a) 28)).alloc (.cells (patCs b) 28))).cell? ⟨w.heap.size, 0, none⟩ = some (.slice A l.length c) := by simp [go_sem]
    have PA0 : ((((w.alloc (.cells #[.slice A l.length c] 24)).alloc (.cells (patCs a) 28)).alloc (.cells (patCs b) 28))).blk (w.heap.size + 1) = some (.cells (patCs a) 28 (0, 0)) := by simp [go_sem]
    have PB0 : ((((w.alloc (.cells #[.slice A l.length c] 24)).alloc (.cells (patCs a) 28)).alloc (.cells (patCs b) 28))).blk (w.heap.size + 1 + 1) = some (.cells (patCs b) 28 (0, 0)) := by simp [go_sem]
    go_enter Try.func3, Try.ntmps3
    go_wp2_with fail
    refine (head20_any _ m (gcell HB0.out HG.out)).mono ?_
    rintro e w1 ⟨rfl, hb1⟩
    have hx1 := hb1
    have C1 := keepw hx1 C0
    have qC1 := World.block_lt_of_cell? _ _ C1
    have PA1 := rkeepk hx1 PA0
    have qPA1 := lt_of_heap PA1
    have PB1 := rkeepk hx1 PB0
    have qPB1 := lt_of_heap PB1
    have HB1 := Lib.hid (chain2 HB0.out hx1)
    clear hx1 hb1 C0 PA0 PB0 
    go_wp2_with fail
    have hbl := bl1 HB1.out (.cells (twoCs a b) 28)
    refine (light_lit HLI.out A _ c 2 2 _ rfl (HR.out.below hbl) (RdP.lit2 _ a b _ (by simp)) hl HFI.out (two_fits hpa hpb)).mono ?_
    rintro e w2 ⟨rfl, hb2⟩
    clear hbl
    have hx2 := (step_below hb2)
    have C2 := keepw hx2 C1
    have qC2 := World.block_lt_of_cell? _ _ C2
    have PA2 := rkeepk hx2 PA1
    have qPA2 := lt_of_heap PA2
    have PB2 := rkeepk hx2 PB1
    have qPB2 := lt_of_heap PB2
    have HB2 := Lib.hid (chain2 HB1.out hx2)
    clear hx2 hb2 C1 qC1 PA1 qPA1 PB1 qPB1 
    have hco1 := fun W h => Lib.hid (comm_lit hcc ra rb W m (gcell (HB2.out.trans (Below.mono h HB2.out.size)) HG.out))
    have hco2 := fun W h => Lib.hid (comm_lit hcd rb ra W m (gcell (HB2.out.trans (Below.mono h HB2.out.size)) HG.out))
    go_upto_region 4 with fail
    go_cut [28] (fun v28 wc => v28 = .bool false ∧ Below w2.heap.size w2 wc)
    case first =>
      refine wp_region_grew (by kernel_rfl) (by as_aux_lemma => kernel_rfl) ?_
      repeat (go_big_quiet_step (first | with_reducible exact Calls_grew (hco1 _ (grew_below _ _)).out | with_reducible exact Calls_grew (hco2 _ (grew_below _ _)).out))
      refine wpQuiet_nil ?_
      rintro _ ⟨W, rfl⟩
      go_wp2_with fail
      go_meet
      case rel => exact ⟨rfl, grew_below _ _⟩
    case rest =>
    obtain ⟨rfl, hb3⟩ := hcut
    obtain ⟨w3, hw3⟩ : ∃ x, x = wc := ⟨_, rfl⟩
    subst hw3
    clear hco1 hco2
    have hx3 := hb3
    have C3 := keepw hx3 C2
    have qC3 := World.block_lt_of_cell? _ _ C3
    have PA3 := rkeepk hx3 PA2
    have qPA3 := lt_of_heap PA3
    have PB3 := rkeepk hx3 PB2
    have qPB3 := lt_of_heap PB3
    have HB3 := Lib.hid (chain2 HB2.out hx3)
    clear hx3 hb3 C2 qC2 PA2 qPA2 PB2 qPB2 
    go_wp2_with fail
    refine (comm_lit hcc ra rb _ m (gcell HB3.out HG.out)).mono ?_
    rintro e w4 ⟨rfl, hb4⟩
    have hx4 := hb4
    have C4 := keepw hx4 C3
    have qC4 := World.block_lt_of_cell? _ _ C4
    have PA4 := rkeepk hx4 PA3
    have qPA4 := lt_of_heap PA4
    have PB4 := rkeepk hx4 PB3
    have qPB4 := lt_of_heap PB4
    have HB4 := Lib.hid (chain2 HB3.out hx4)
    clear hx4 hb4 C3 qC3 PA3 qPA3 PB3 qPB3 
    go_wp2_with fail
    refine (valid_any l A c _ (HR.out.below HB4.out) (by omega) HSH.out).mono ?_
    rintro e w5 ⟨rfl, hb5⟩
    rw [HV.out]
    have hx5 := hb5
    have C5 := keepw hx5 C4
    have qC5 := World.block_lt_of_cell? _ _ C5
    have PA5 := rkeepk hx5 PA4
    have qPA5 := lt_of_heap PA5
    have PB5 := rkeepk hx5 PB4
    have qPB5 := lt_of_heap PB5
    have HB5 := Lib.hid (chain2 HB4.out hx5)
    clear hx5 hb5 C4 qC4 PA4 qPA4 PB4 qPB4 
    go_wp2_with fail
    have hbl := bl1 HB5.out (.cells (twoCs a b) 28)
    refine (all_lit HAL.out A _ 2 c 2 _ rfl (HR.out.below hbl) (RdP.lit2 _ a b _ (by simp)) (by omega) hlc HSH.out (by simp) (two_ready ra rb) m (gcell hbl HG.out)).mono ?_
    rintro e w6 ⟨Ad, cd, rfl, hrd, hcd1, hb6⟩
    clear hbl
    have hx6 := (step_below hb6)
    have C6 := keepw hx6 C5
    have qC6 := World.block_lt_of_cell? _ _ C6
    have PA6 := rkeepk hx6 PA5
    have qPA6 := lt_of_heap PA6
    have PB6 := rkeepk hx6 PB5
    have qPB6 := lt_of_heap PB6
    have HB6 := Lib.hid (chain2 HB5.out hx6)
    clear hx6 hb6 C5 qC5 PA5 qPA5 PB5 qPB5 
    have HX6 := Lib.hid (hrd)
    clear hrd
    go_wp2_with fail
    have hbl := bl1 (bl1 HB6.out (.cells #[.slice Ad d.length cd] 24)) (.cells (twoCs b a) 28)
    refine (all_lit HAM.out A _ 2 c 2 _ rfl (HR.out.below hbl) (RdP.lit2 _ b a _ (by simp)) (by omega) hlc HSH.out (by simp) (two_ready rb ra) m (gcell hbl HG.out)).mono ?_
    rintro e w7 ⟨Ae, ce, rfl, hrd, hcd2, hb7⟩
    clear hbl
    have hx7 := (step_below (step_below hb7))
    have C7 := keepw hx7 C6
    have qC7 := World.block_lt_of_cell? _ _ C7
    have PA7 := rkeepk hx7 PA6
    have qPA7 := lt_of_heap PA7
    have PB7 := rkeepk hx7 PB6
    have qPB7 := lt_of_heap PB7
    have X7 : w7.cell? ⟨w6.heap.size, 0, none⟩ = some (.slice Ad d.length cd) := bx_c (step_below hb7) (by first | rfl | simp)
    have qX7 := World.block_lt_of_cell? _ _ X7
    have HX7 := Lib.hid (HX6.out.below hx7)
    have HB7 := Lib.hid (chain2 HB6.out hx7)
    clear hx7 hb7 C6 qC6 PA6 qPA6 PB6 qPB6 HX6
    have HY7 := Lib.hid (hrd)
    clear hrd
    go_wp2_with fail
    refine (same_lit HDD.out Ad Ae _ _ cd ce _ rfl rfl (HX7.out.below (bl1 (Below.refl _ _) _)) (HY7.out.below (bl1 (Below.refl _ _) _)) hdl).mono ?_
    rintro e w8 ⟨rfl, hb8⟩
    have hx8 := (step_below hb8)
    have C8 := keepw hx8 C7
    have qC8 := World.block_lt_of_cell? _ _ C8
    have PA8 := rkeepk hx8 PA7
    have qPA8 := lt_of_heap PA8
    have PB8 := rkeepk hx8 PB7
    have qPB8 := lt_of_heap PB8
    have X8 := keepw hx8 X7
    have qX8 := World.block_lt_of_cell? _ _ X8
    have HB8 := Lib.hid (chain2 HB7.out hx8)
    clear hx8 hb8 C7 qC7 PA7 qPA7 PB7 qPB7 X7 qX7 
    go_wp2_with fail
    go_ret
    exact ⟨rfl, HB8.out⟩
theorem csound_any (l : List Item) (A : Option Addr) (c : Nat) (a b : Patch) (w : World) (m : Int) (hr : RdI w A l) (hl : l.length ≤ maxLen) (hlc : l.length ≤ c) (hfit : ∀ x ∈ l, x.Fits) (hpa : a.Fits) (hpb : b.Fits) (hg : w.cell? ⟨0, 0, none⟩ = some (.int .i64 m)) : Calls Try.prog 3 #[.agg #[.slice A l.length c], a.agg, b.agg] w fun e w' => e = .returned (.bool true) ∧ Below w.heap.size w w' := by
  cases hli : lightB l [a, b] with
  | false => exact csound_a l A c a b w m hr hl hlc hfit hpa hpb hg hli
  | true =>
    cases hcc : commF a b with
    | false => exact csound_b l A c a b w m hr hl hlc hfit hpa hpb hg hli hcc (by rw [commF_symm]; exact hcc)
    | true =>
      have hcd : commF b a = true := by rw [commF_symm]; exact hcc
      cases hv : walkB l with
      | false => exact csound_c l A c a b w m hr hl hlc hfit hpa hpb hg hli hcc hcd hv
      | true =>
        rcases sound_law hv hcc with h | ⟨h1, h2, h3⟩
        · exact csound_d l A c a b w m hr hl hlc hfit hpa hpb hg hli hcc hcd hv (allR l [a, b]).1 (allR l [b, a]).1 (allR l [a, b]).2.1 (allR l [b, a]).2.1 (allR l [a, b]).2.2 (allR l [b, a]).2.2 rfl rfl (by rw [h]) _ rfl (by rw [h])
        · exact csound_d l A c a b w m hr hl hlc hfit hpa hpb hg hli hcc hcd hv (allR l [a, b]).1 (allR l [b, a]).1 (allR l [a, b]).2.1 (allR l [b, a]).2.1 (allR l [a, b]).2.2 (allR l [b, a]).2.2 rfl rfl h3.symm false (by simpa using h2) (by simpa using h1)
end Go.Proofs.Ytfolcjkednmkoaa
