/- The law CommuteGroups. -/
import Derived.Test.YtfolcjkednmkoaaCHead
import Derived.Test.YtfolcjkednmkoaaJVis
import Derived.Test.YtfolcjkednmkoaaCPlc
set_option linter.unusedVariables false
set_option linter.unusedSimpArgs false
namespace Go.Proofs.Ytfolcjkednmkoaa
open Go.RowKit
theorem groups_small {adj : Adj} {n : Nat} {G : List (List Nat)} (h : GroupsOk adj n G) : G.length ≤ n ∧ ∀ g ∈ G, g.length ≤ n := by
  have hs := h.sum
  have key : ∀ (H : List (List Nat)), (∀ g ∈ H, g ≠ []) → H.length ≤ (H.map List.length).sum ∧ ∀ g ∈ H, g.length ≤ (H.map List.length).sum := by
    intro H
    induction H with
    | nil => simp
    | cons a r ih =>
      intro hne
      obtain ⟨h1, h2⟩ := ih (fun g hg => hne g (List.mem_cons_of_mem _ hg))
      have ha : 0 < a.length := List.length_pos_iff.2 (hne a (by simp))
      simp only [List.length_cons, List.map_cons, List.sum_cons]
      refine ⟨by omega, fun g hg => ?_⟩
      rcases List.mem_cons.1 hg with rfl | hg
      · omega
      · have := h2 g hg; omega
  obtain ⟨h1, h2⟩ := key G h.ne
  rw [hs] at h1 h2
  exact ⟨h1, h2⟩
/- is the patch linked to one before k? -/
def linkedF (ps : List Patch) (i k : Nat) : Bool := (List.range k).any fun j => decide (j ≠ i) && adjF ps i j
theorem linkedF_succ (ps : List Patch) (i k : Nat) : linkedF ps i (k + 1) = (linkedF ps i k || (decide (k ≠ i) && adjF ps i k)) := by
  unfold linkedF
  rw [List.range_succ, List.any_append]
  simp
theorem linkedF_end {ps : List Patch} {i : Nat} {G : List (List Nat)} (h : GroupsOk (adjF ps) ps.length G) {g : List Nat} (hg : g ∈ G) (hi : i ∈ g) : linkedF ps i ps.length = decide (1 < g.length) := by
  rw [Bool.eq_iff_iff]
  simp only [linkedF, List.any_eq_true, List.mem_range, Bool.and_eq_true, decide_eq_true_eq]
  rw [h.nb g hg i hi]
theorem adjF_comm {ps : List Patch} {i k : Nat} {p q : Patch} (hp : ps[i]? = some p) (hq : ps[k]? = some q) : adjF ps i k = !commF p q := by
  unfold adjF
  rw [hp, hq]
theorem RdP.row2 {w : World} {A : Option Addr} {l : List Patch} (h : RdP w A l) {i k : Nat} {p q : Patch} (hp : l[i]? = some p) (hq : l[k]? = some q) :
    ∃ b o C t fr, A = some ⟨b, o, none⟩ ∧ b < w.heap.size ∧ w.blk b = some (.cells C t fr) ∧ (o + i * 15 + 15 ≤ C.size ∧ C.extract (o + i * 15) (o + i * 15 + 15) = p.cells.toArray) ∧ o + k * 15 + 15 ≤ C.size ∧ C.extract (o + k * 15) (o + k * 15 + 15) = q.cells.toArray := by
  obtain ⟨b, o, C, t, fr, e, h1, h2, h3, h4⟩ := h.row hp
  obtain ⟨b', o', C', t', fr', e', k1, k2, k3, k4⟩ := h.row hq
  rw [e] at e'
  cases e'
  rw [h2] at k2
  cases k2
  exact ⟨b, o, C, t, fr, e, h1, h2, ⟨h3, h4⟩, k3, k4⟩
theorem pos_adj {ps : List Patch} {G : List (List Nat)} (h : GroupsOk (adjF ps) ps.length G) {i k : Nat} {p q : Patch} (hp : ps[i]? = some p) (hq : ps[k]? = some q) (hc : commF p q = false) : posG G i = posG G k := by
  have hi := (List.getElem?_eq_some_iff.1 hp).1
  have hk := (List.getElem?_eq_some_iff.1 hq).1
  obtain ⟨g, hg, hm⟩ := posG_lt h hi
  exact (posG_eq h hg (h.far g (List.mem_of_getElem? hg) i hm k hk (by rw [adjF_comm hp hq, hc]; rfl))).symm
theorem light_ready {l : List Item} {ps : List Patch} (h : lightB l ps = true) : ps.length ≤ 12 ∧ ∀ q ∈ ps, q.Ready := by
  obtain ⟨h1, h2⟩ := light_pats h
  refine ⟨h1, fun q hq => ?_⟩
  obtain ⟨a, b, c⟩ := few_facts (h2 q hq)
  exact ⟨a, b, c⟩
theorem head_lt {adj : Adj} {n : Nat} {G : List (List Nat)} (h : GroupsOk adj n G) {j : Nat} {g9 g : List Nat} (h9 : G[j]? = some g9) (hg : G[j + 1]? = some g) {y x : Nat} (hy : g9[0]? = some y) (hx : g[0]? = some x) : y < x := by
  obtain ⟨k1, rfl⟩ := List.getElem?_eq_some_iff.1 h9
  obtain ⟨k2, rfl⟩ := List.getElem?_eq_some_iff.1 hg
  exact (List.pairwise_iff_getElem.1 h.hd) j (j + 1) k1 k2 (by omega) y (by rw [List.head?_eq_getElem?]; exact hy) x (by rw [List.head?_eq_getElem?]; exact hx)
theorem inc_lt {adj : Adj} {n : Nat} {G : List (List Nat)} (h : GroupsOk adj n G) {g : List Nat} (hg : g ∈ G) {j y x : Nat} (hy : g[j]? = some y) (hx : g[j + 1]? = some x) : y < x := by
  obtain ⟨k1, rfl⟩ := List.getElem?_eq_some_iff.1 hy
  obtain ⟨k2, rfl⟩ := List.getElem?_eq_some_iff.1 hx
  exact (List.pairwise_iff_getElem.1 (h.inc g hg)) j (j + 1) k1 k2 (by omega)
theorem sumG_le {adj : Adj} {n : Nat} {G : List (List Nat)} (h : GroupsOk adj n G) (i : Nat) : sumG G i ≤ n := by
  have e : ((G.take i).map List.length).sum + ((G.drop i).map List.length).sum = n := by
    rw [← h.sum, ← List.sum_append, ← List.map_append, List.take_append_drop]
  unfold sumG
  omega
set_option maxRecDepth 20000 in
set_option maxHeartbeats 4000000 in
theorem cgroups_a (ps : List Patch) (B : Option Addr) (dc : Nat) (w : World) (m : Int) (hs : RdP w B ps) (hm : ps.length ≤ maxLen) (hfp : ∀ q ∈ ps, q.Fits) (hg : w.cell? ⟨0, 0, none⟩ = some (.int .i64 m)) (hli : lightB [] ps = false) : Calls Try.prog 5 #[.slice B ps.length dc] w fun e w' => e = .returned (.bool true) ∧ Below w.heap.size w w' := by
  have HS := Lib.hid hs; clear hs
  have HG := Lib.hid hg; clear hg
  have HFP := Lib.hid hfp; clear hfp
  have HLI := Lib.hid hli; clear hli
  go_enter Try.func5, Try.ntmps5
  go_wp2_with fail
  refine (head20_any _ m HG.out).mono ?_
  rintro e w1 ⟨rfl, hb1⟩
  have HB1 := Lib.hid hb1; clear hb1
  go_wp2_with fail
  refine (light_any [] ps none B 0 dc _ Sl.nil (HS.out.below HB1.out) (by simp) hm (by simp) HFP.out).mono ?_
  rintro e w2 ⟨rfl, hb2⟩
  rw [HLI.out]
  have HB2 := Lib.hid (chain2 HB1.out hb2); clear hb2
  go_wp2_with fail
  go_ret
  exact ⟨rfl, HB2.out⟩
set_option maxRecDepth 20000 in
set_option maxHeartbeats 4000000 in
theorem cgroups_b (ps : List Patch) (B : Option Addr) (dc : Nat) (w : World) (m : Int) (hs : RdP w B ps) (hm : ps.length ≤ maxLen) (hfp : ∀ q ∈ ps, q.Fits) (hg : w.cell? ⟨0, 0, none⟩ = some (.int .i64 m)) (hli : lightB [] ps = true) : Calls Try.prog 5 #[.slice B ps.length dc] w fun e w' => e = .returned (.bool true) ∧ Below w.heap.size w w' := by
  obtain ⟨hp12, hrd⟩ := light_ready hli
  have HRD := Lib.hid hrd; clear hrd
  have hq30 : decide ((30 : Int) < (ps.length : Int)) = false := by simp; omega
  have hok := groups_ok (adjF ps) ps.length (fun i k h => (adjF_lt h).2) (adjF_symm ps)
  obtain ⟨G, hGe⟩ : ∃ G, groupsF (adjF ps) ps.length = G := ⟨_, rfl⟩
  rw [hGe] at hok
  obtain ⟨hGl, hGg⟩ := groups_small hok
  have hsum := sumG_le hok
  have hmk := fun W => run_make_row' (P := Try.prog) 43 3 (.int .i64 0) 8 Try.underlying43 info_intR rfl .i64 .i64 ps.length (by omega) (by omega) W
  have HGE := Lib.hid hGe; clear hGe
  have HOK := Lib.hid hok; clear hok
  have HGG := Lib.hid hGg; clear hGg
  have HSUM := Lib.hid hsum; clear hsum
  have HS := Lib.hid hs; clear hs
  have HG := Lib.hid hg; clear hg
  have HFP := Lib.hid hfp; clear hfp
  have HLI := Lib.hid hli; clear hli
  go_enter Try.func5, Try.ntmps5
  go_wp2_with fail
  refine (head20_any _ m HG.out).mono ?_
  rintro e w1 ⟨rfl, hb1⟩
  have HB1 := Lib.hid hb1; clear hb1
  go_wp2_with fail
  refine (light_any [] ps none B 0 dc _ Sl.nil (HS.out.below HB1.out) (by simp) hm (by simp) HFP.out).mono ?_
  rintro e w2 ⟨rfl, hb2⟩
  rw [HLI.out]
  have HB2 := Lib.hid (chain2 HB1.out hb2); clear hb2
  go_wp2_with fail
  refine (groups_read ps HRD.out (by omega) B dc _ rfl m _ (HS.out.below HB2.out) (gcell HB2.out HG.out)).mono ?_
  rintro e w3 ⟨A, c, rfl, hc, hrg, hA, hb3⟩
  rw [HGE.out] at hc hrg ⊢
  have HB3 := Lib.hid (chain2 HB2.out hb3)
  have HS3 := Lib.hid (HS.out.below HB3.out)
  have HG3 := Lib.hid (gcell HB3.out HG.out)
  clear hb3 hA HS HB2 HB1 HG
  have HRG := Lib.hid hrg; clear hrg
  go_wp2_with fail
  have hN0 := NumRow.made w3 ps.length
  rw [← ofAt_zero G ps.length] at hN0
  have hb0 : Below w3.heap.size w3 (w3.alloc (.cells (madeCells #[.int .i64 0] ps.length) 3)) := (Below.refl _ _).alloc (Nat.le_refl _) _
  generalize w3.alloc (.cells (madeCells #[.int .i64 0] ps.length) 3) = W0 at hN0 hb0 ⊢
  have HN0 := Lib.hid hN0; clear hN0
  have HB0 := Lib.hid hb0; clear hb0
  clear hmk
  go_loopw [6, 7] (fun v6 v7 wr => ∃ i : Nat, i ≤ G.length ∧ v7 = .int .i64 i ∧ v6 = .int .i64 (sumG G i : Nat) ∧ NumRow wr w3.heap.size (ofAt G ps.length i 0) ∧ Below w3.heap.size w3 wr) (fun _ v7 _ => G.length - (intOf v7).toNat)
  case atStart => exact ⟨0, Nat.zero_le _, rfl, rfl, HN0.out, HB0.out⟩
  case round =>
    obtain ⟨i, hi, rfl, rfl, hnr, hb⟩ := hrel
    have HN := Lib.hid hnr; clear hnr
    have HB := Lib.hid hb; clear hb
    by_cases hlt : i < G.length
    · obtain ⟨g, hx⟩ := get_of_lt hlt
      have hi1 : (i : Int) < G.length := by omega
      have hi0 : (0 : Int) ≤ i := by omega
      have hgm := List.mem_of_getElem? hx
      have hgn := HGG.out g hgm
      have hgl : 0 < g.length := List.length_pos_iff.2 (HOK.out.ne g hgm)
      obtain ⟨b1, rfl, hs1, h1⟩ := (HRG.out.below HB.out) (get_ne hx)
      obtain ⟨c1, d1, e1, l1, t1, n1, x1⟩ := h1 i g hx
      have hq0 : ((g.length : Int) == 0) = false := beq_eq_false_iff_ne.2 (by omega)
      obtain ⟨x0, hx0⟩ := get_of_lt hgl
      have f0 := x1 0 x0 hx0
      have hgl0 : (0 : Int) < g.length := by omega
      have hs6 := HSUM.out (i + 1)
      rw [sumG_next hx] at hs6
      have HH1 := Lib.hid h1; clear h1
      have HX1 := Lib.hid x1; clear x1
      have HX := Lib.hid hx; clear hx
      have HX0 := Lib.hid hx0; clear hx0
      go_upto_region 10 with fail
      go_cut [70] (fun v70 wc => v70 = .bool false ∧ Below wr.heap.size wr wc)
      case first =>
        cases i with
        | zero =>
          go_wp2_with fail
          go_quiet (fail)
          go_wp2_with fail
          go_meet
          case rel => exact ⟨rfl, Below.drewN' _ (Below.refl _ _)⟩
        | succ j =>
          obtain ⟨g9, hg9⟩ : ∃ g9, G[j]? = some g9 := get_of_lt (by omega)
          obtain ⟨c9, d9, e9, l9, t9, n9, x9⟩ := HH1.out j g9 hg9
          have hl9 : 0 < g9.length := List.length_pos_iff.2 (HOK.out.ne g9 (List.mem_of_getElem? hg9))
          obtain ⟨y0, hy0⟩ := get_of_lt hl9
          have f9 := x9 0 y0 hy0
          have hlt9 : y0 < x0 := head_lt HOK.out hg9 HX.out hy0 HX0.out
          have hq9 : decide (x0 ≤ y0) = false := by simp; omega
          have hj0 : (0 : Int) ≤ j := by omega
          have hj1 : (j : Int) < G.length := by omega
          have hj2 : (0 : Int) < (j : Int) + 1 := by omega
          have hl90 : (0 : Int) < g9.length := by omega
          clear hg9 hy0 x9
          go_wp2_with fail
          go_quiet (fail)
          go_wp2_with fail
          go_meet
          case rel => exact ⟨rfl, Below.drewN' _ (Below.refl _ _)⟩
      case rest =>
        obtain ⟨rfl, hbc⟩ := hcut
        have HN1 := Lib.hid (HN.out.below hbc)
        have HB1 := Lib.hid (HB.out.trans (hbc.mono HB.out.size))
        clear hbc e1 f0 HH1 HN HB HX1
        go_wp2_with fail
        go_loopw [6, 8] (fun v6 v8 wr => ∃ k : Nat, k ≤ g.length ∧ v8 = .int .i64 k ∧ v6 = .int .i64 ((sumG G i + k : Nat) : Int) ∧ NumRow wr w3.heap.size (ofAt G ps.length i k) ∧ Below w3.heap.size w3 wr) (fun _ v8 _ => g.length - (intOf v8).toNat)
        case atStart => exact ⟨0, Nat.zero_le _, rfl, rfl, HN1.out, HB1.out⟩
        case round =>
          obtain ⟨k, hk, rfl, rfl, hnr, hb⟩ := hrel
          obtain ⟨b2, hbb, hs2, h2⟩ := (HRG.out.below hb) (get_ne HX.out)
          cases hbb
          obtain ⟨c2, d2, e2, l2, t2, n2, x2⟩ := h2 i g HX.out
          have HN2 := Lib.hid hnr; clear hnr
          have HB2 := Lib.hid hb; clear hb
          have HX2 := Lib.hid x2; clear x2 h2
          by_cases hl2 : k < g.length
          · obtain ⟨x, hxk⟩ := get_of_lt hl2
            have f1 := HX2.out k x hxk
            have hxn : x < ps.length := HOK.out.lt g hgm x (List.mem_of_getElem? hxk)
            have j1 : (k : Int) < g.length := by omega
            have j0 : (0 : Int) ≤ k := by omega
            have x0' : (0 : Int) ≤ x := by omega
            have x1' : (x : Int) < ps.length := by omega
            have x2' : decide (ps.length ≤ x) = false := by simp; omega
            have hc0 : wr.cell? ⟨w3.heap.size, x, none⟩ = some (.int .i64 0) := HN2.out.cell (ofAt_fresh HOK.out HX.out hxk)
            have hfr := HN2.out.fr x
            have hws : w3.heap.size < wr.heap.size := HN2.out.lt
            have hsm : sumG G i + k + 1 ≤ 12 := by omega
            have HXK := Lib.hid hxk; clear hxk
            go_upto_region 16 with fail
            go_cut [117] (fun v117 wc => v117 = .bool false ∧ wr = wc)
            case first =>
              cases k with
              | zero =>
                go_wp2_with fail
                go_meet
                case rel => exact ⟨rfl, rfl⟩
              | succ j =>
                obtain ⟨y, hy⟩ : ∃ y, g[j]? = some y := get_of_lt (by omega)
                have f9 := HX2.out j y hy
                have hq9 : decide (x ≤ y) = false := by
                  have := inc_lt HOK.out hgm hy HXK.out
                  simp
                  omega
                have q0 : (0 : Int) ≤ j := by omega
                have q1 : (j : Int) < g.length := by omega
                clear hy
                go_wp2_with fail
                go_meet
                case rel => exact ⟨rfl, rfl⟩
            case rest =>
              obtain ⟨rfl, rfl⟩ := hcut
              go_wp2_with fail
              refine ⟨⟨k + 1, by omega, by go_num, by go_num, ?_, ?_⟩, by simp [intOf]; omega⟩
              · have := HN2.out.set x (i + 1)
                rw [ofAt_set HOK.out HX.out HXK.out] at this
                simpa using this
              · exact HB2.out.setCell (Nat.le_refl _) _
          · obtain rfl : k = g.length := by omega
            go_wp2_with fail
            exact ⟨⟨i + 1, by omega, by go_num, by rw [sumG_next HX.out], by rw [← ofAt_next HOK.out HX.out]; exact HN2.out, HB2.out⟩, by simp [intOf]; omega⟩
    · obtain rfl : i = G.length := by omega
      have HSE := Lib.hid (sumG_end HOK.out)
      clear hi hlt
      obtain ⟨wA, hwA⟩ : ∃ x, x = wr := ⟨_, rfl⟩
      subst hwA
      go_wp2_with fail
      go_loopw [10] (fun v10 wr => ∃ i : Nat, i ≤ ps.length ∧ v10 = .int .i64 i ∧ Below wA.heap.size wA wr) (fun v10 _ => ps.length - (intOf v10).toNat)
      case atStart => exact ⟨0, Nat.zero_le _, rfl, Below.refl _ _⟩
      case round =>
        obtain ⟨i, hi, rfl, hb⟩ := hrel
        by_cases hlt : i < ps.length
        · obtain ⟨p, hp⟩ := get_of_lt hlt
          obtain ⟨g, hg, hm⟩ := posG_lt HOK.out hlt
          have hgm := List.mem_of_getElem? hg
          have HBi := Lib.hid hb; clear hb
          have hi1 : (i : Int) < ps.length := by omega
          have hi0 : (0 : Int) ≤ i := by omega
          have HP := Lib.hid hp; clear hp
          have HGI := Lib.hid hg; clear hg
          go_wp2_with fail
          obtain ⟨wB, hwB⟩ : ∃ x, x = wr := ⟨_, rfl⟩
          subst hwB
          go_loopw [11, 12] (fun v11 v12 wr => ∃ k : Nat, k ≤ ps.length ∧ v12 = .int .i64 k ∧ v11 = .bool (linkedF ps i k) ∧ Below wA.heap.size wA wr) (fun _ v12 _ => ps.length - (intOf v12).toNat)
          case atStart => exact ⟨0, Nat.zero_le _, rfl, by simp [linkedF], HBi.out⟩
          case round =>
            obtain ⟨k, hk, rfl, rfl, hb⟩ := hrel
            have HBk := Lib.hid hb
            have hb3 := HB.out.trans (hb.mono HB.out.size)
            have hs5 := HS3.out.below hb3
            have hg5 := gcell hb3 HG3.out
            have hn5 := HN.out.below hb
            have HLI5 := Lib.hid (linkedF_succ ps i k)
            by_cases hl2 : k < ps.length
            · obtain ⟨q, hq⟩ := get_of_lt hl2
              have hk1 : (k : Int) < ps.length := by omega
              have hk0 : (0 : Int) ≤ k := by omega
              by_cases hki : k = i
              · subst hki
                clear hs5 hg5 hn5 hb hb3 hq
                go_wp2_with fail
                exact ⟨⟨k + 1, by omega, by go_num, by rw [HLI5.out]; simp, HBk.out⟩, by simp [intOf]; omega⟩
              · have hki1 : decide (k = i) = false := by simpa using hki
                have hki2 : ((k : Int) == (i : Int)) = false := beq_eq_false_iff_ne.2 (by omega)
                obtain ⟨b3, o3, C3, t3, fr3, hB3, hbs3, hblk3, ⟨hC1, hex1⟩, hC2, hex2⟩ := hs5.row2 HP.out hq
                subst hB3
                have hLC : linkedF ps i (k + 1) = (linkedF ps i k || !commF p q) := by
                  rw [HLI5.out, adjF_comm HP.out hq]
                  simp [hki]
                have HLC := Lib.hid hLC; clear hLC
                have hco := fun W h => Lib.hid (comm_any p q (HRD.out p (List.mem_of_getElem? HP.out)) (HRD.out q (List.mem_of_getElem? hq)) W m (gcell h hg5))
                have u1 := hn5.cell (ofAt_end HOK.out hlt)
                have u2 := hn5.cell (ofAt_end HOK.out hl2)
                have hfar : commF p q = false → posG G i + 1 = posG G k + 1 := fun h => by rw [pos_adj HOK.out HP.out hq h]
                generalize posG G k + 1 = bq at u2 hfar
                generalize posG G i + 1 = ap at u1 hfar
                have hws : w3.heap.size < wr.heap.size := hn5.lt
                clear hs5 hg5 hn5 hb hb3 hq HLI5
                by_cases hab : ap = bq
                · subst hab
                  cases hcc : commF p q
                  all_goals
                    have HCC := Lib.hid hcc
                    cases hL : linkedF ps i k
                  all_goals
                    have HL := Lib.hid hL
                    rw [HCC.out] at hco
                    clear hcc hL hfar
                    go_wp2_with fail
                    refine wp_region_grew (by kernel_rfl) (by as_aux_lemma => kernel_rfl) ?_
                    repeat (go_big_quiet_step (exact Calls_grew (hco _ (grew_below _ _)).out))
                    refine wpQuiet_nil ?_
                    rintro _ ⟨W, rfl⟩
                    go_wp2_with fail
                    go_quiet (fail)
                    go_wp2_with fail
                    exact ⟨⟨k + 1, by omega, by go_num, by rw [HLC.out, HCC.out, HL.out]; rfl, Below.drewN' _ (HBk.out.trans ((grew_below _ _).mono HBk.out.size))⟩, by simp [intOf]; omega⟩
                · have hcc : commF p q = true := by
                    cases hcc : commF p q with
                    | true => rfl
                    | false => exact absurd (hfar hcc) hab
                  have hab1 : ((ap : Int) != (bq : Int)) = true := by simp; omega
                  have hab2 : decide (ap = bq) = false := by simpa using hab
                  have HCC := Lib.hid hcc
                  cases hL : linkedF ps i k
                  all_goals
                    have HL := Lib.hid hL
                    rw [HCC.out] at hco
                    clear hcc hL hfar hab
                    go_wp2_with fail
                    refine wp_region_grew (by kernel_rfl) (by as_aux_lemma => kernel_rfl) ?_
                    repeat (go_big_quiet_step (exact Calls_grew (hco _ (grew_below _ _)).out))
                    refine wpQuiet_nil ?_
                    rintro _ ⟨W, rfl⟩
                    go_wp2_with fail
                    go_quiet (fail)
                    go_wp2_with fail
                    exact ⟨⟨k + 1, by omega, by go_num, by rw [HLC.out, HCC.out, HL.out]; rfl, Below.drewN' _ (HBk.out.trans ((grew_below _ _).mono HBk.out.size))⟩, by simp [intOf]; omega⟩
            · obtain rfl : k = ps.length := by omega
              have u1 := hn5.cell (ofAt_end HOK.out hlt)
              have HLE := Lib.hid (linkedF_end HOK.out hgm hm)
              obtain ⟨b4, hbb, hs4, h4⟩ := (HRG.out.below hb3) (get_ne HGI.out)
              cases hbb
              obtain ⟨c4, d4, e4, l4, t4, n4, x4⟩ := h4 _ g HGI.out
              have hql : posG G i < G.length := (List.getElem?_eq_some_iff.1 HGI.out).1
              generalize posG G i = qi at u1 e4 hql
              have v1 : wr.cell? ⟨w3.heap.size, i, none⟩ = some (.int .i64 ((qi : Int) + 1)) := by rw [u1]; simp
              have q1 : ((qi : Int) + 1 == 0) = false := beq_eq_false_iff_ne.2 (by omega)
              have q2 : decide ((G.length : Int) < (qi : Int) + 1) = false := by simp; omega
              have q3 : (qi : Int) < G.length := by omega
              have q4 : (0 : Int) ≤ qi := by omega
              have q5 : decide (G.length < qi + 1) = false := by simp; omega
              clear hs5 hg5 hn5 hb hb3 HLI5 u1 x4 h4
              cases hg1 : decide (1 < g.length)
              all_goals
                have hL := HLE.out
                rw [hg1] at hL
                rw [hL]
                have hg2 : decide ((1 : Int) < (g.length : Int)) = _ := (show decide ((1 : Int) < (g.length : Int)) = decide (1 < g.length) by congr 1; exact propext (by omega)).trans hg1
                clear hL
                go_wp2_with fail
                exact ⟨⟨i + 1, by omega, by go_num, HBk.out⟩, by simp [intOf]; omega⟩
        · obtain rfl : i = ps.length := by omega
          rw [HSE.out]
          have hqq : ((ps.length : Int) == (ps.length : Int)) = true := by simp
          go_wp2_with fail
          go_ret
          exact ⟨rfl, HB3.out.trans ((HB.out.trans (hb.mono HB.out.size)).mono HB3.out.size)⟩
theorem cgroups_any (ps : List Patch) (B : Option Addr) (dc : Nat) (w : World) (m : Int) (hs : RdP w B ps) (hm : ps.length ≤ maxLen) (hfp : ∀ q ∈ ps, q.Fits) (hg : w.cell? ⟨0, 0, none⟩ = some (.int .i64 m)) : Calls Try.prog 5 #[.slice B ps.length dc] w fun e w' => e = .returned (.bool true) ∧ Below w.heap.size w w' := by
  cases hli : lightB [] ps with
  | false => exact cgroups_a ps B dc w m hs hm hfp hg hli
  | true => exact cgroups_b ps B dc w m hs hm hfp hg hli
end Go.Proofs.Ytfolcjkednmkoaa
