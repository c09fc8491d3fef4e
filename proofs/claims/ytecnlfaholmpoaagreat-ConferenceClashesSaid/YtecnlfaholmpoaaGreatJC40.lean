/- slices.SortStableFunc at fewer than forty clauses. pandectlaw38.few: two lists of clauses, few and of a moderate size; Join at lists whose lengths are letters; sorts of fewer than forty. Clauses, patches compared for being unlike: one law each. pandectref36.Same: two lists of clauses, compared. pandectlaw38.twice: false only where no two clauses have the same Id. -/
import Derived.Test.YtecnlfaholmpoaaGreatJC27
import Derived.Test.YtecnlfaholmpoaaGreatJC39
import Derived.Test.YtecnlfaholmpoaaGreatJCS3
import Derived.Test.YtecnlfaholmpoaaGreatJC30
import Derived.Test.YtecnlfaholmpoaaGreatJC36
import Derived.Test.YtecnlfaholmpoaaGreatJC37
import Derived.Test.YtecnlfaholmpoaaGreatJC14
import Derived.Test.YtecnlfaholmpoaaGreatJC13
set_option linter.unusedVariables false
set_option linter.unusedSimpArgs false
set_option maxRecDepth 20000
set_option maxHeartbeats 4000000
namespace Go.Proofs.YtecnlfaholmpoaaGreat
open Go.RowKit
abbrev encT (a : TC) : List Value := a.1.cells
theorem enters_sooner : ∀ args w, (callFunc 40 args).run Tryz.prog w = .ok (.enter 40 args) w := enters_of Tryz.func40 (by kernel_rfl) rfl
theorem ins_part (d : Array TC) (b cap : Nat) (i j : Nat) (w : World) (hH : Go.Sort.HoldsK encT 20 w b 0 d) (hblk : b < w.heap.size) (hij : i ≤ j) (hj : j ≤ d.size) (hsz : d.size ≤ 100000) :
 Calls Tryz.prog 114 #[.slice (some ⟨b, 0, none⟩) d.size cap, .int .i64 i, .int .i64 j, .func (.func 40) #[] #[]] w fun e w' => e = .returned (.tuple #[]) ∧ ∃ n os, w' = sortWorldK encT 20 w b 0 n (Go.Sort.insertionSort (ltOf soonerT) d i j) os :=
 AnyQ.insertionSortCmpFunc Tryz.sins 20 (fun w => by kernel_rfl) (fun w => by kernel_rfl) encT (fun _ => rfl) (fun x v hv => claCs_one x.1 v (by simpa using hv)) soonerT 40 #[] b 0 cap i j d w enters_sooner
  (fun m os dk hk x y => sooner_cmp x.1 y.1 _) hH hblk hij hj (by omega)
theorem stable_row2 (l : List Clause) (N : Nat) (hN : N = l.length) (h20 : 20 ≤ N) (h40 : N < 40) (b cap : Nat) (cur : Array Value) (w : World) (hb : w.heap[b]? = some (.cells cur 51 (0, 0))) (ht : cur.toList.take (l.length * 20) = cflat l) (hs : l.length * 20 ≤ cur.size) :
 Calls Tryz.prog 80 #[.slice (some ⟨b, 0, none⟩) N cap, .int .i64 N, .func (.func 40) #[] #[]] w fun e w' => e = .returned (.tuple #[]) ∧ Sorted20 l (sortB sooner l) b cur w w' := by
 have fin : ∀ (Z : List TC) (w3 : World), Z.Perm l.zipIdx → Z.Pairwise Bef → SWK encT 20 w b 0 Z.toArray w3 → Sorted20 l (sortB sooner l) b cur w w3 := by
  rintro Z w3 hp hw ⟨n, os, rfl⟩
  have hz : Z.length = l.length := by rw [hp.length_eq]; simp
  obtain ⟨cur', c1, c2, c3, c4⟩ := row_after (fun x : TC => x.1) (d' := Z.toArray) hb (by rw [List.size_toArray, hz]; exact hs) n os
  refine ⟨cur', c1, c2, ?_, c4⟩
  rw [List.size_toArray, hz] at c3
  rw [c3]
  congr 1
  exact runs_stable l Z hp hw
 have hblk : b < w.heap.size := (Array.getElem?_eq_some_iff.1 hb).1
 obtain ⟨d0, hd0⟩ : ∃ d : Array TC, d = l.zipIdx.toArray := ⟨_, rfl⟩
 have hdm : d0.toList.map (fun x : TC => x.1) = l := by rw [hd0]; simp
 have z0 : d0.size = N := by rw [hd0, hN]; simp
 have hH : Go.Sort.HoldsK encT 20 w b 0 d0 := holds_row (fun x : TC => x.1) hb (by rw [z0, hN, hdm]; exact ht)
 obtain ⟨d1, hd1⟩ : ∃ d : Array TC, d = Go.Sort.insertionSort (ltOf soonerT) d0 0 20 := ⟨_, rfl⟩
 obtain ⟨d2, hd2⟩ : ∃ d : Array TC, d = Go.Sort.insertionSort (ltOf soonerT) d1 20 N := ⟨_, rfl⟩
 obtain ⟨hd1s, X, Y, hXY, hX20, hXl, wX, wY, hlt, hpm⟩ := two_runs l 20 (by omega) d1 d2 (by rw [hd1, hd0]) (by rw [hd2, hN])
 have z2 : d2.size = N := by rw [hXY, hN]; simp; omega
 have z1 : d1.size = N := by rw [hN]; exact hd1s
 have R : RowK encT 20 w b 0 d0 := ⟨fun _ => rfl, fun x v hv => claCs_one x.1 v (by simpa using hv), hH, hblk⟩
 have con1 := ins_part d0 b cap 0 20 w hH hblk (by omega) (by omega) (by omega)
 rw [← hd1, z0] at con1
 have con2 : ∀ w1, SWK encT 20 w b 0 d1 w1 → Calls Tryz.prog 114 #[.slice (some ⟨b, 0, none⟩) N cap, .int .i64 20, .int .i64 N, .func (.func 40) #[] #[]] w1 fun e w' => e = .returned (.tuple #[]) ∧ SWK encT 20 w b 0 d2 w' := by
  intro w1 S1
  have := ins_part d1 b cap 20 N w1 (S1.holds hblk hH (by omega)) (S1.lt hblk) h20 (by omega) (by omega)
  rw [← hd2, z1] at this
  refine this.mono ?_
  rintro e w' ⟨rfl, n, os, rfl⟩
  exact ⟨rfl, S1.on hblk n d2 os (by omega)⟩
 have con3 : ∀ w2, Y ≠ [] → SWK encT 20 w b 0 d2 w2 → Calls Tryz.prog 115 #[.slice (some ⟨b, 0, none⟩) N cap, .int .i64 0, .int .i64 20, .int .i64 N, .func (.func 40) #[] #[]] w2 fun e w' => e = .returned (.tuple #[]) ∧ Sorted20 l (sortB sooner l) b cur w w' := by
  intro w2 hY S2
  have := symMerge_any encT b 0 cap N d0 w R z0 (by omega) (cf := soonerT) (B := Bef) bef_trans 40 #[] enters_sooner (fun m os dk hk x y => sooner_cmp x.1 y.1 _) (X.length + Y.length) [] X Y [] 0 20 N w2 (Nat.le_refl _) (by rintro rfl; simp at hX20) hY wX wY (fun x hx y hy h => bef_c1 h) (fun x hx y hy h => bef_c2 (hlt x hx y hy) (by omega)) (by simp; omega) rfl (by simp; omega) (by simp; omega) (by simpa [← hXY] using S2)
  refine this.mono ?_
  rintro e w' ⟨rfl, Z, hZ, wZ, SZ⟩
  exact ⟨rfl, fin Z w' (hZ.trans hpm) wZ (by simpa using SZ)⟩
 have fin2 : ∀ w2, Y = [] → SWK encT 20 w b 0 d2 w2 → Sorted20 l (sortB sooner l) b cur w w2 := by
  rintro w2 rfl S2
  rw [List.append_nil] at hXY hpm
  rw [hXY] at S2
  exact fin X w2 hpm wX S2
 have hy0 : Y = [] ↔ N = 20 := by
  rw [← List.length_eq_zero_iff]
  omega
 have CON1 := Lib.hid con1
 have CON2 := Lib.hid con2
 have CON3 := Lib.hid con3
 have FIN2 := Lib.hid fin2
 have HY0 := Lib.hid hy0
 clear con1 con2 con3 fin2 fin hy0 hH R hpm hlt wX wY hXl hX20 hXY hd1s z0 z1 z2 hdm hd0 hs ht hb hN
 have h20z : (20 : Int) ≤ (N : Int) := by omega
 have h40z : ¬ (40 : Int) ≤ (N : Int) := by omega
 have h40y : ¬ (40 : Int) < (N : Int) := by omega
 go_enter Tryz.func80, Tryz.ntmps80
 go_wp2_with fail
 refine wp_loop_rounds 2 ?_
 rw [rounds_succ]
 go_wp2_with fail
 refine CON1.out.mono ?_
 rintro e w1 ⟨rfl, n1, os1, hw1⟩
 have S1 : Aside (SWK encT 20 w b 0 d1 w1) := ⟨n1, os1, by rw [hw1, hd1]⟩
 clear hw1 hd1 hd2
 go_wp2_with fail
 rw [rounds_succ]
 go_wp2_with fail
 refine (CON2.out w1 S1.out).mono ?_
 rintro e w2 ⟨rfl, s2⟩
 have S2 : Aside (SWK encT 20 w b 0 d2 w2) := s2
 clear s2 S1
 by_cases hn : N = 20
 · subst hn
   go_wp2_with fail
   refine wp_loop_rounds 1 ?_
   rw [rounds_succ]
   go_wp2_with fail
   go_end0
   exact ⟨rfl, FIN2.out w2 (HY0.out.2 (by first | rfl | trivial)) S2.out⟩
 · have hn2 : (20 : Int) < (N : Int) := by omega
   have hY : Y ≠ [] := fun h => hn (HY0.out.1 h)
   have con := CON3.out w2 hY S2.out
   have CON := Lib.hid con
   clear con hn
   go_wp2_with fail
   refine wp_loop_rounds 2 ?_
   rw [rounds_succ]
   go_wp2_with fail
   refine wp_loop_rounds 1 ?_
   rw [rounds_succ]
   go_wp2_with fail
   refine CON.out.mono ?_
   rintro e w3 ⟨rfl, hw⟩
   have HW := Lib.hid hw; clear hw
   go_wp2_with fail
   rw [rounds_succ]
   go_wp2_with fail
   go_end0
   exact ⟨rfl, HW.out⟩
theorem sort_row2 (l : List Clause) (h20 : 20 ≤ l.length) (h40 : l.length < 40) (b cap : Nat) (cur : Array Value) (w : World) (hb : w.heap[b]? = some (.cells cur 51 (0, 0))) (ht : cur.toList.take (l.length * 20) = cflat l) (hs : l.length * 20 ≤ cur.size) :
 Calls Tryz.prog 39 #[.slice (some ⟨b, 0, none⟩) l.length cap, .func (.func 40) #[] #[]] w fun e w' => e = .returned (.tuple #[]) ∧ Sorted20 l (sortB sooner l) b cur w w' := by
 have hcon := Lib.hid (stable_row2 l l.length rfl h20 h40 b cap cur w hb ht hs)
 clear ht hs hb
 go_enter Tryz.func39, Tryz.ntmps39
 go_wp2_with fail
 refine hcon.out.mono ?_
 rintro e w' ⟨rfl, hw⟩
 have HW := Lib.hid hw; clear hw
 go_wp2_with fail
 go_end0
 exact ⟨rfl, HW.out⟩
theorem sort_own2 (l : List Clause) (hl : l.length < 40) (base : Nat) (v : Value) (w : World) (h : OwnCs w base v l) :
 Calls Tryz.prog 39 #[v, .func (.func 40) #[] #[]] w fun e w' => e = .returned (.tuple #[]) ∧ OwnCs w' base v (sortB sooner l) ∧ w.grownBy w' v.ownBlock := by
 by_cases h20 : l.length < 20
 · exact sort_own l h20 base v w h
 · have hlen : (sortB sooner l).length = l.length := (sortB_perm sooner l).length_eq
   rcases h.2 with ⟨rfl, h0⟩ | ⟨g, cap, cur, rfl, r2, r3, r4, r5, r6, r7⟩
   · omega
   · refine (sort_row2 l (by omega) hl g cap cur w r3 r7 (by rw [r6]; exact Nat.mul_le_mul_right _ r4)).mono ?_
     rintro e w' ⟨rfl, cur', c1, c2, c3, c4⟩
     refine ⟨rfl, ?_, c4⟩
     unfold OwnCs
     rw [hlen]
     exact ⟨by rw [cflat_len, hlen], .inr ⟨g, cap, cur', rfl, r2, c1, r4, r5, c2.trans r6, c3⟩⟩
end Go.Proofs.YtecnlfaholmpoaaGreat
set_option maxRecDepth 20000
set_option maxHeartbeats 4000000
namespace Go.Proofs.YtecnlfaholmpoaaGreat
open Go.RowKit
theorem sorts_few2 {n : Nat} (h : n < 40) : SortsN n := fun l base v w hl ho => sort_own2 l (by omega) base v w ho
theorem join_at {a b : List Clause} {J : List Clause × Int} (hJ : joinF a b = J) (n k : Nat) (hn : n = a.length) (hk : k = b.length) (A B : Option Addr) (c d : Nat) (w : World) (hs : n + k < 40) (ha : RdC w A a) (hb : RdC w B b) :
 Calls Tryz.prog 12 #[.slice A n c, .slice B k d] w fun e w' => ∃ v, e = .returned (.tuple #[v, .int .i64 J.2]) ∧ OwnCs w' w.heap.size v J.1 ∧ Below w.heap.size w w' := by
 subst hn hk hJ
 exact join_any a b A B c d w (sorts_few2 hs) ha hb (by omega) (by omega)
theorem join_len (a b : List Clause) : (joinF a b).1.length ≤ a.length + b.length := by
 unfold joinF
 split
 · split
   · rename_i h
     have h1 := putAll_len (joinS a b) []
     obtain ⟨pg, hpg⟩ : ∃ pg, pg = (putAll [] (joinS a b)).1 := ⟨_, rfl⟩
     have h2 : putAll [] (joinS a b) = (pg, 0) := by rw [hpg, ← h]
     have h3 := (listP_perm (put_page_ok h2)).length_eq
     rw [← hpg] at h1
     have h4 : (joinS a b).length = a.length + b.length := by unfold joinS; rw [(sortB_perm _ _).length_eq]; simp
     rw [← hpg]
     simp only [List.length_nil] at h1
     show (listP pg).length ≤ _
     omega
   · simp
 · simp
theorem fewp_any (l : List Item) (a b : List Clause) (A B C : Option Addr) (c d f : Nat) (w : World) (hr : RdI w A l) (ha : RdC w B a) (hb : RdC w C b) (hl : l.length ≤ maxLen) (hfit : ∀ x ∈ l, x.Fits) (hfa : ∀ x ∈ a, x.patch.Fits) (hfb : ∀ x ∈ b, x.patch.Fits) :
 Calls Tryz.prog 11 #[.agg #[.slice A l.length c], .slice B a.length d, .slice C b.length f] w fun e w' => e = .returned (.bool (fewC l a 20 && fewC l b 20)) ∧ Below w.heap.size w w' := by
 have hb0 := (Below.refl w.heap.size w).alloc (Nat.le_refl _) (.cells #[.slice A l.length c] 24)
 have hc0 : (w.alloc (.cells #[.slice A l.length c] 24)).cell? ⟨w.heap.size, 0, none⟩ = some (.slice A l.length c) := by simp [go_sem]
 have HB0 := Lib.hid hb0; clear hb0
 have HR := Lib.hid hr; clear hr
 have HA := Lib.hid ha; clear ha
 have HB := Lib.hid hb; clear hb
 have HFIT := Lib.hid hfit; clear hfit
 have HFA := Lib.hid hfa; clear hfa
 have HFB := Lib.hid hfb; clear hfb
 go_enter Tryz.func11, Tryz.ntmps11
 go_wp2_with fail
 cases h1 : fewC l a 20 with
 | false =>
   have H1 := Lib.hid h1; clear h1
   refine (few_at H1.out A B c d _ (by decide) (HR.out.below HB0.out) (HA.out.below HB0.out) hl HFIT.out HFA.out).mono ?_
   rintro e w1 ⟨rfl, hb1⟩
   have HB1 := Lib.hid (chain2 HB0.out hb1); clear hb1
   go_wp2_with fail
   go_ret
   exact ⟨by rw [H1.out]; rfl, HB1.out⟩
 | true =>
   have H1 := Lib.hid h1; clear h1
   refine (few_at H1.out A B c d _ (by decide) (HR.out.below HB0.out) (HA.out.below HB0.out) hl HFIT.out HFA.out).mono ?_
   rintro e w1 ⟨rfl, hb1⟩
   have hc1 := keepw hb1 hc0
   have HB1 := Lib.hid (chain2 HB0.out hb1); clear hb1 hc0
   go_wp2_with fail
   cases h2 : fewC l b 20 with
   | false =>
     have H2 := Lib.hid h2; clear h2
     refine (few_at H2.out A C c f _ (by decide) (HR.out.below HB1.out) (HB.out.below HB1.out) hl HFIT.out HFB.out).mono ?_
     rintro e w2 ⟨rfl, hb2⟩
     have HB2 := Lib.hid (chain2 HB1.out hb2); clear hb2
     go_wp2_with fail
     go_ret
     exact ⟨by rw [H1.out, H2.out]; rfl, HB2.out⟩
   | true =>
     have H2 := Lib.hid h2; clear h2
     refine (few_at H2.out A C c f _ (by decide) (HR.out.below HB1.out) (HB.out.below HB1.out) hl HFIT.out HFB.out).mono ?_
     rintro e w2 ⟨rfl, hb2⟩
     have HB2 := Lib.hid (chain2 HB1.out hb2); clear hb2
     go_wp2_with fail
     go_ret
     exact ⟨by rw [H1.out, H2.out]; rfl, HB2.out⟩
theorem fewp_at {l : List Item} {a b : List Clause} {q : Bool} (h : (fewC l a 20 && fewC l b 20) = q) (A B C : Option Addr) (c d f n : Nat) (w : World) (hn : n = l.length) (hr : RdI w A l) (ha : RdC w B a) (hb : RdC w C b) (hl : l.length ≤ maxLen) (hfit : ∀ x ∈ l, x.Fits) (hfa : ∀ x ∈ a, x.patch.Fits) (hfb : ∀ x ∈ b, x.patch.Fits) :
 Calls Tryz.prog 11 #[.agg #[.slice A n c], .slice B a.length d, .slice C b.length f] w fun e w' => e = .returned (.bool q) ∧ Below w.heap.size w w' := by
 subst h hn
 exact fewp_any l a b A B C c d f w hr ha hb hl hfit hfa hfb
theorem rdi_nil (w : World) : RdI w none [] := fun h => absurd rfl h
end Go.Proofs.YtecnlfaholmpoaaGreat
namespace Go.Proofs.YtecnlfaholmpoaaGreat
open Go.RowKit
theorem neq_of_eql {T : TypeId} {A B : Array Value} {r : Bool} {W : World} (h : (binOp .eql T (.agg A) (.agg B)).run Tryz.prog W = .ok (.bool r) W) : (binOp .neq T (.agg A) (.agg B)).run Tryz.prog W = .ok (.bool (!r)) W := by
 rw [run_eql_struct] at h
 rw [run_neq_struct]
 generalize (Op.equalIn 10000 T (.agg A) (.agg B)).run Tryz.prog W = q at h ⊢
 cases q with
 | ok b w' =>
   simp only [Result.andThen] at h ⊢
   injection h with h1 h2
   injection h1 with h1
   rw [h1, h2]
 | _ => simp [Result.andThen] at h
def neqCl (A B : Array Value) : Sem Value := binOp .neq 51 (.agg A) (.agg B)
theorem clEq_iff {a b : Clause} : clEq a b = true ↔ a = b := by
 unfold clEq
 simp only [Bool.and_eq_true, decide_eq_true_eq, patEq_iff, beq_iff_eq]
 constructor
 · rintro ⟨h1, h2, h3, h4⟩
   cases a; cases b
   simp only at h1 h2 h3 h4
   subst h1 h2 h3 h4
   rfl
 · rintro rfl
   exact ⟨rfl, rfl, rfl, rfl⟩
theorem run_neqClC (a b : Clause) (W : World) : (neqCl (claCs a) (claCs b)).run Tryz.prog W = .ok (.bool (!clEq a b)) W := neq_of_eql (run_eqlCl a b W)
@[go_sem high] theorem fold_neqCl (A B : Array Value) : binOp .neq 51 (.agg A) (.agg B) = neqCl A B := rfl
end Go.Proofs.YtecnlfaholmpoaaGreat
set_option maxRecDepth 20000
set_option maxHeartbeats 4000000
namespace Go.Proofs.YtecnlfaholmpoaaGreat
open Go.RowKit
theorem RdC.load20 {w : World} {b o : Nat} {l : List Clause} (h : RdC w (some ⟨b, o, none⟩) l) {k : Nat} {p : Clause} (hp : l[k]? = some p) : rowLoad w 51 b (o + k * 20) 20 (w.blk b) = .ok p.agg w := by
 obtain ⟨b', o', hA, _, h1, _⟩ := h.at hp
 cases hA
 exact h1
theorem take_eq {xs ys : List Clause} {k : Nat} {x y : Clause} (h : xs.take k = ys.take k) (hx : xs[k]? = some x) (hy : ys[k]? = some y) (he : x = y) : xs.take (k + 1) = ys.take (k + 1) := by
 rw [List.take_add_one, List.take_add_one, h, hx, hy, he]
theorem same36_any (xs ys : List Clause) (A B : Option Addr) (c d : Nat) (w : World) (hr : RdC w A xs) (hs : RdC w B ys) (hl : xs.length ≤ 1000) (hm : ys.length ≤ 1000) :
 Calls Tryz.prog 14 #[.slice A xs.length c, .slice B ys.length d] w fun e w' => ∃ r : Bool, e = .returned (.bool r) ∧ (r = true ↔ xs = ys) ∧ Below w.heap.size w w' := by
 have HR := Lib.hid hr; clear hr
 have HS := Lib.hid hs; clear hs
 by_cases hn : xs.length = ys.length
 · have hd : ((xs.length : Int) != (ys.length : Int)) = false := by simp; omega
   have HN := Lib.hid hn; clear hn
   go_enter Tryz.func14, Tryz.ntmps14
   go_wp2_with fail
   go_loopw [5] (fun i wr => ∃ k : Nat, k ≤ xs.length ∧ i = .int .i64 k ∧ xs.take k = ys.take k ∧ Below w.heap.size w wr) (fun i _ => xs.length - (intOf i).toNat)
   case atStart => exact ⟨0, Nat.zero_le _, rfl, rfl, Below.refl _ _⟩
   case round =>
    obtain ⟨k, hk, rfl, htk, hb⟩ := hrel
    have HTK := Lib.hid htk; clear htk
    by_cases hlt : k < xs.length
    · obtain ⟨x, hx⟩ := get_of_lt hlt
      obtain ⟨y, hy⟩ := get_of_lt (l := ys) (k := k) (by have := HN.out; omega)
      have hi1 : (k : Int) < xs.length := by omega
      have hi2 : (k : Int) < ys.length := by have := HN.out; omega
      have hi0 : (0 : Int) ≤ k := by omega
      have h1 := HR.out.below hb
      have h2 := HS.out.below hb
      obtain ⟨b1, o1, rfl, hbs1, _⟩ := h1.at hx
      obtain ⟨b2, o2, rfl, hbs2, _⟩ := h2.at hy
      have H1 := Lib.hid h1; clear h1
      have H2 := Lib.hid h2; clear h2
      have HX := Lib.hid hx; clear hx
      have HY := Lib.hid hy; clear hy
      have HB := Lib.hid hb; clear hb
      have hne : ∀ W, (neqCl (claCs x) (claCs y)).run Tryz.prog W = .ok (.bool (!clEq x y)) W := fun W => run_neqClC x y W
      go_upto_region 6 with fail
      refine wp_region_held_drew (S := (fun X => RdC X (some ⟨b1, o1, none⟩) xs ∧ RdC X (some ⟨b2, o2, none⟩) ys)) (by kernel_rfl) ⟨H1.out, H2.out⟩ (fun hHeld => ?_)
      refine takeF (i := 0) (v := .slice (some ⟨b1, o1, none⟩) xs.length c) (k := 17) rfl rfl (by kernel_rfl) (by kernel_rfl) (by kernel_rfl) (fun _ _ _ h => h) (Or.inl ⟨by rfl, fun z hz => by go_simp⟩) hHeld ?_
      try simp only [Act.put, sia, sc0, scs]
      refine takeF (i := 1) (v := .int .i64 k) (k := 18) rfl rfl (by kernel_rfl) (by kernel_rfl) (by kernel_rfl) (fun _ _ _ h => h) (Or.inl ⟨by rfl, fun z hz => by go_simp⟩) hHeld ?_
      try simp only [Act.put, sia, sc0, scs]
      refine takeF (i := 2) (v := .pointer (some ⟨b1, o1 + k * 20, none⟩)) (k := 19) rfl rfl (by kernel_rfl) (by kernel_rfl) (by kernel_rfl) (fun _ _ _ h => h) (Or.inl ⟨by rfl, fun z hz => by go_simp⟩) hHeld ?_
      try simp only [Act.put, sia, sc0, scs]
      refine takeF (i := 3) (v := x.agg) (k := 20) rfl rfl (by kernel_rfl) (by kernel_rfl) (by kernel_rfl) (fun _ _ _ h => h) (Or.inl ⟨by rfl, fun z hz => by (have hq := hz.1.load20 HX.out; clear hz; go_simp)⟩) hHeld ?_
      try simp only [Act.put, sia, sc0, scs]
      refine takeF (i := 4) (v := .slice (some ⟨b2, o2, none⟩) ys.length d) (k := 21) rfl rfl (by kernel_rfl) (by kernel_rfl) (by kernel_rfl) (fun _ _ _ h => h) (Or.inl ⟨by rfl, fun z hz => by go_simp⟩) hHeld ?_
      try simp only [Act.put, sia, sc0, scs]
      refine takeF (i := 5) (v := .int .i64 k) (k := 22) rfl rfl (by kernel_rfl) (by kernel_rfl) (by kernel_rfl) (fun _ _ _ h => h) (Or.inl ⟨by rfl, fun z hz => by go_simp⟩) hHeld ?_
      try simp only [Act.put, sia, sc0, scs]
      refine takeF (i := 6) (v := .pointer (some ⟨b2, o2 + k * 20, none⟩)) (k := 23) rfl rfl (by kernel_rfl) (by kernel_rfl) (by kernel_rfl) (fun _ _ _ h => h) (Or.inl ⟨by rfl, fun z hz => by go_simp⟩) hHeld ?_
      try simp only [Act.put, sia, sc0, scs]
      refine takeF (i := 7) (v := y.agg) (k := 24) rfl rfl (by kernel_rfl) (by kernel_rfl) (by kernel_rfl) (fun _ _ _ h => h) (Or.inl ⟨by rfl, fun z hz => by (have hq := hz.2.load20 HY.out; clear hz; go_simp)⟩) hHeld ?_
      try simp only [Act.put, sia, sc0, scs]
      refine takeF (i := 8) (v := .bool (!clEq x y)) (k := 25) rfl rfl (by kernel_rfl) (by kernel_rfl) (by kernel_rfl) (fun _ _ _ h => h) (Or.inl ⟨by rfl, fun z hz => by (clear hz; go_simp)⟩) hHeld ?_
      try simp only [Act.put, sia, sc0, scs]
      refine wpAnyH_done (by kernel_rfl) ?_ _
      clear hne
      cases he : clEq x y with
      | true =>
        have HE : Hid (x = y) := Lib.hid (clEq_iff.1 he)
        go_wp2_with fail
        exact ⟨⟨k + 1, by omega, by go_num, take_eq HTK.out HX.out HY.out HE.out, HB.out.drew⟩, by simp [intOf]; omega⟩
      | false =>
        have HE : Hid (x ≠ y) := Lib.hid (fun e => by rw [clEq_iff.2 e] at he; cases he)
        go_wp2_with fail
        go_ret
        refine ⟨false, rfl, ⟨fun h => (by cases h), ?_⟩, HB.out.drew⟩
        rintro rfl
        have := HX.out.symm.trans HY.out
        exact absurd (by simpa using this) HE.out
    · have hke : k = xs.length := by omega
      have hi1 : ¬ (k : Int) < xs.length := by omega
      go_wp2_with fail
      go_ret
      subst hke
      have : xs = ys := by
       have h := HTK.out
       rwa [List.take_length, List.take_of_length_le (by have := HN.out; omega)] at h
      exact .inr ⟨rfl, this, hb⟩
 · have hd : ((xs.length : Int) != (ys.length : Int)) = true := by simp; omega
   have HNE := Lib.hid (show ¬ xs = ys by rintro rfl; exact hn rfl); clear hn
   go_enter Tryz.func14, Tryz.ntmps14
   go_wp2_with fail
   go_ret
   exact ⟨false, rfl, ⟨fun h => (by cases h), fun h => absurd h HNE.out⟩, Below.refl _ _⟩
end Go.Proofs.YtecnlfaholmpoaaGreat
set_option maxRecDepth 20000
set_option maxHeartbeats 4000000
namespace Go.Proofs.YtecnlfaholmpoaaGreat
open Go.RowKit
def Apart (l : List Clause) (i : Nat) : Prop := ∀ a b x y, b < a → a < i → l[a]? = some x → l[b]? = some y → y.id ≠ x.id
theorem apart_step {l : List Clause} {i : Nat} {x : Clause} (h : Apart l i) (hx : l[i]? = some x) (h2 : ∀ b y, b < i → l[b]? = some y → y.id ≠ x.id) : Apart l (i + 1) := by
 intro a b p q hba ha hp hq
 by_cases hai : a < i
 · exact h a b p q hba hai hp hq
 · have : a = i := by omega
   subst this
   rw [hx] at hp
   cases hp
   exact h2 b q hba hq
theorem Apart.nodup {l : List Clause} (h : Apart l l.length) : (l.map (·.id)).Nodup := by
 rw [List.nodup_iff_pairwise_ne, List.pairwise_iff_getElem]
 intro i j hi hj hij
 simp at hi hj
 have := h j i l[j] l[i] hij hj (List.getElem?_eq_getElem hj) (List.getElem?_eq_getElem hi)
 simpa using this
theorem sEq_ne {s t : Stamp} (h : sEq s.seat s.count t.seat t.count = false) : s ≠ t := by
 rintro rfl
 unfold sEq at h
 simp at h
theorem twice_any (l : List Clause) (A : Option Addr) (c : Nat) (w : World) (hr : RdC w A l) (hl : l.length ≤ 1000) :
 Calls Tryz.prog 22 #[.slice A l.length c] w fun e w' => ∃ r : Bool, e = .returned (.bool r) ∧ (r = false → (l.map (·.id)).Nodup) ∧ Below w.heap.size w w' := by
 have HR := Lib.hid hr; clear hr
 go_enter Tryz.func22, Tryz.ntmps22
 go_wp2_with fail
 go_loopw [3] (fun v wr => ∃ i : Nat, i ≤ l.length ∧ v = .int .i64 i ∧ Apart l i ∧ Below w.heap.size w wr) (fun v _ => l.length - (intOf v).toNat)
 case atStart => exact ⟨0, Nat.zero_le _, rfl, fun a b x y _ h => by omega, Below.refl _ _⟩
 case round =>
  obtain ⟨i, hi, rfl, hcm, hbr⟩ := hrel
  have HCM := Lib.hid hcm; clear hcm
  have HBR := Lib.hid hbr; clear hbr
  by_cases hlt : i < l.length
  · have hi1 : (i : Int) < l.length := by omega
    obtain ⟨x, hx⟩ := get_of_lt hlt
    have HX := Lib.hid hx; clear hx
    go_wp2_with fail
    go_loopw [4] (fun v wr => ∃ k : Nat, k ≤ i ∧ v = .int .i64 k ∧ (∀ b y, b < k → l[b]? = some y → y.id ≠ x.id) ∧ Below w.heap.size w wr) (fun v _ => i - (intOf v).toNat)
    case atStart => exact ⟨0, Nat.zero_le _, rfl, fun b y h => by omega, HBR.out⟩
    case round =>
     obtain ⟨k, hk, rfl, hck, hbk⟩ := hrel
     have HCK := Lib.hid hck; clear hck
     have HBK := Lib.hid hbk; clear hbk
     by_cases hkl : k < i
     · have hk1 : (k : Int) < i := by omega
       have hk2 : (k : Int) < l.length := by omega
       have hi0 : (0 : Int) ≤ i := by omega
       have hk0 : (0 : Int) ≤ k := by omega
       obtain ⟨y, hy⟩ := get_of_lt (show k < l.length by omega)
       have HY := Lib.hid hy; clear hy
       have hro2 : RdC wr A l := HR.out.below HBK.out
       obtain ⟨ob, oo, rfl, hob, hq1, hq2, hs0, hs1, hs19⟩ := hro2.at HX.out
       have HRO2 := Lib.hid hro2; clear hro2 hq1 hq2 hs0 hs1 hs19
       go_upto_region 7 with fail
       refine wp_region_held_drew (S := (fun X => RdC X (some ⟨ob, oo, none⟩) l)) (by kernel_rfl) HRO2.out (fun hHeld => ?_)
       refine takeF (i := 0) (v := .slice (some ⟨ob, oo, none⟩) l.length c) (k := 16) rfl rfl (by kernel_rfl) (by kernel_rfl) (by kernel_rfl) (fun _ _ _ h => h) (Or.inl ⟨by rfl, fun z hz => by go_simp⟩) hHeld ?_
       try simp only [Act.put, sia, sc0, scs]
       refine takeF (i := 1) (v := .int .i64 k) (k := 17) rfl rfl (by kernel_rfl) (by kernel_rfl) (by kernel_rfl) (fun _ _ _ h => h) (Or.inl ⟨by rfl, fun z hz => by go_simp⟩) hHeld ?_
       try simp only [Act.put, sia, sc0, scs]
       refine takeF (i := 2) (v := .pointer (some ⟨ob, oo + k * 20, none⟩)) (k := 18) rfl rfl (by kernel_rfl) (by kernel_rfl) (by kernel_rfl) (fun _ _ _ h => h) (Or.inl ⟨by rfl, fun z hz => by go_simp⟩) hHeld ?_
       try simp only [Act.put, sia, sc0, scs]
       refine takeF (i := 3) (v := .pointer (some ⟨ob, oo + k * 20, none⟩)) (k := 19) rfl rfl (by kernel_rfl) (by kernel_rfl) (by kernel_rfl) (fun _ _ _ h => h) (Or.inl ⟨by rfl, fun z hz => by go_simp⟩) hHeld ?_
       try simp only [Act.put, sia, sc0, scs]
       refine takeF (i := 4) (v := y.id.agg) (k := 20) rfl rfl (by kernel_rfl) (by kernel_rfl) (by kernel_rfl) (fun _ _ _ h => h) (Or.inl ⟨by rfl, fun z hz => by (obtain ⟨y0, y1⟩ := RdC.idAt hz HY.out; clear hz; go_simp)⟩) hHeld ?_
       try simp only [Act.put, sia, sc0, scs]
       refine takeF (i := 5) (v := .slice (some ⟨ob, oo, none⟩) l.length c) (k := 21) rfl rfl (by kernel_rfl) (by kernel_rfl) (by kernel_rfl) (fun _ _ _ h => h) (Or.inl ⟨by rfl, fun z hz => by go_simp⟩) hHeld ?_
       try simp only [Act.put, sia, sc0, scs]
       refine takeF (i := 6) (v := .int .i64 i) (k := 22) rfl rfl (by kernel_rfl) (by kernel_rfl) (by kernel_rfl) (fun _ _ _ h => h) (Or.inl ⟨by rfl, fun z hz => by go_simp⟩) hHeld ?_
       try simp only [Act.put, sia, sc0, scs]
       refine takeF (i := 7) (v := .pointer (some ⟨ob, oo + i * 20, none⟩)) (k := 23) rfl rfl (by kernel_rfl) (by kernel_rfl) (by kernel_rfl) (fun _ _ _ h => h) (Or.inl ⟨by rfl, fun z hz => by go_simp⟩) hHeld ?_
       try simp only [Act.put, sia, sc0, scs]
       refine takeF (i := 8) (v := .pointer (some ⟨ob, oo + i * 20, none⟩)) (k := 24) rfl rfl (by kernel_rfl) (by kernel_rfl) (by kernel_rfl) (fun _ _ _ h => h) (Or.inl ⟨by rfl, fun z hz => by go_simp⟩) hHeld ?_
       try simp only [Act.put, sia, sc0, scs]
       refine takeF (i := 9) (v := x.id.agg) (k := 25) rfl rfl (by kernel_rfl) (by kernel_rfl) (by kernel_rfl) (fun _ _ _ h => h) (Or.inl ⟨by rfl, fun z hz => by (obtain ⟨y0, y1⟩ := RdC.idAt hz HX.out; clear hz; go_simp)⟩) hHeld ?_
       try simp only [Act.put, sia, sc0, scs]
       refine takeF (i := 10) (v := .bool (sEq y.id.seat y.id.count x.id.seat x.id.count)) (k := 26) rfl rfl (by kernel_rfl) (by kernel_rfl) (by kernel_rfl) (fun _ _ _ h => h) (Or.inl ⟨by rfl, fun z hz => by go_simp⟩) hHeld ?_
       try simp only [Act.put, sia, sc0, scs]
       refine wpAnyH_done (by kernel_rfl) ?_ _
       cases hcc : sEq y.id.seat y.id.count x.id.seat x.id.count with
       | true =>
         go_wp2_with fail
         go_ret
         exact ⟨true, rfl, by simp, HBK.out.drew⟩
       | false =>
         go_wp2_with fail
         refine ⟨⟨k + 1, by omega, by go_num, ?_, HBK.out.drew⟩, by simp [intOf]; omega⟩
         intro b y' hb hy'
         by_cases hbk2 : b < k
         · exact HCK.out b y' hbk2 hy'
         · have hbe : b = k := by omega
           subst hbe
           have := HY.out
           rw [hy'] at this
           cases this
           exact sEq_ne hcc
     · have hke : k = i := by omega
       have hk1 : ¬ (k : Int) < i := by omega
       go_wp2_with fail
       refine ⟨⟨i + 1, by omega, by go_num, apart_step HCM.out HX.out (by subst hke; exact HCK.out), HBK.out⟩, by simp [intOf]; omega⟩
  · have hie : i = l.length := by omega
    have hi1 : ¬ (i : Int) < l.length := by omega
    go_wp2_with fail
    go_ret
    exact .inl ⟨rfl, Apart.nodup (by subst hie; exact HCM.out), HBR.out⟩
end Go.Proofs.YtecnlfaholmpoaaGreat
