/- code.Under. code.Below. -/
import Derived.Test.YtecnlfaholmpoaaGreatJC2
import Derived.Deep.RegionLaw
import Derived.Deep.DrawnRows
set_option linter.unusedVariables false
set_option linter.unusedSimpArgs false
set_option maxRecDepth 20000
set_option maxHeartbeats 1000000
namespace Go.Proofs.YtecnlfaholmpoaaGreat
open Go.RowKit
def underF (id div : Str) (done : List (Item × List Str)) : Bool := done.foldl (fun f xo => if xo.1.id == id then (div == [] || hasS xo.2 div) else f) false
theorem underF_snoc (id div : Str) (done : List (Item × List Str)) (x : Item) (o : List Str) : underF id div (done ++ [(x, o)]) = if x.id == id then (div == [] || hasS o div) else underF id div done := by
 simp [underF]
theorem VEff.drewN {F : List Nat} {w w' : World} (h : VEff F w w') (n : Nat) : VEff F w (w'.drewN n) := ⟨h.os, h.tape, h.output, h.size, h.block⟩
theorem VEff.setCell {F : List Nat} {w w' : World} (h : VEff F w w') {p : Addr} (hp : p.block ∈ F ∨ w.heap.size ≤ p.block) (u : Value) : VEff F w (w'.setCell p u) :=
 ⟨h.os, h.tape, h.output, by simpa using h.size, fun k hk hn => (Below.heap_setCell w' p u k (by rintro rfl; rcases hp with hp | hp <;> first | exact hn hp | omega)).trans (h.block k hk hn)⟩
theorem under1_any (l : List Item) (A : Option Addr) (c k : Nat) (x : Item) (O : Option Addr) (o : List Str) (id div : Str) (cb ib db fb : Nat) (f : Bool) (w : World)
 (hx : l[k]? = some x) (hr : RdI w A l) (hO : RdS w O o) (ho : o.length ≤ 1000000) (hlt : cb < w.heap.size ∧ ib < w.heap.size ∧ db < w.heap.size ∧ fb < w.heap.size) (hl : l.length ≤ 1000000)
 (h1 : w.cell? ⟨cb, 0, none⟩ = some (.slice A l.length c)) (h2 : w.cell? ⟨ib, 0, none⟩ = some (vs id)) (h3 : w.cell? ⟨db, 0, none⟩ = some (vs div)) (h4 : w.heap[fb]? = some (.cells #[.bool f] 4 (0, 0))) :
 Calls Tryz.prog 134 #[.int .i64 k, .slice O o.length o.length, .pointer (some ⟨cb, 0, none⟩), .pointer (some ⟨ib, 0, none⟩), .pointer (some ⟨db, 0, none⟩), .pointer (some ⟨fb, 0, none⟩)] w
  fun e w' => e = .returned (.tuple #[]) ∧ w'.heap[fb]? = some (.cells #[.bool (if x.id == id then (div == [] || hasS o div) else f)] 4 (0, 0)) ∧ VEff [fb] w w' := by
 obtain ⟨b, of, rfl, hbs, c0, c1, c2, c3, c4, c5, c6⟩ := hr.item hx
 have hk : k < l.length := (List.getElem?_eq_some_iff.1 hx).1
 have H4 := Lib.hid h4
 have h6 := cell_of_row w fb 0 _ _ _ h4
 have h7 := frozen_of_row w fb 0 _ _ h4
 simp only [List.getElem?_toArray, List.getElem?_cons_zero] at h6
 have hmem : ∀ W, RdS W O o → Calls Tryz.prog 113 #[.slice O o.length o.length, vs div] W fun e w' => e = .returned (.bool (hasS o div)) ∧ W = w' :=
  fun W hW => containsS_any o O o.length div W hW (by unfold maxLen; omega)
 have HMEM := Lib.hid hmem
 have HO := Lib.hid hO; clear hO
 have HO' := Lib.hid ho
 clear hr hx c0 c2 c3 c4 c5 c6 h4 hmem
 cases hid : (x.id == id)
 all_goals
  go_enter Tryz.func134, Tryz.ntmps134
  go_wp2_with fail
  go_quiet (fail)
 · go_wp2_with fail
   go_end0
   exact ⟨rfl, by simpa using H4.out, (VEff.refl _ _).drewN _⟩
 · cases hdv : div.isEmpty with
   | true =>
     have Hd : Hid ((div == []) = true) := by cases div <;> first | rfl | cases hdv
     have hdv' : div = [] := by simpa using hdv
     subst hdv'
     go_wp2_with fail
     go_end0
     exact ⟨rfl, heap_setCell_same _ _ _ _ _ _ H4.out, ((VEff.refl _ _).drewN _).setCell (.inl (by simp)) _⟩
   | false =>
     have hd : ¬ div = [] := by simpa using hdv
     go_wp2_with (go_at_call 113; refine (HMEM.out (World.drewN w _) HO.out).mono ?_; rintro e w1 ⟨rfl, rfl⟩)
     go_end0
     refine ⟨rfl, ?_, ((VEff.refl _ _).drewN _).setCell (.inl (by simp)) _⟩
     exact (heap_setCell_same (World.drewN w _) _ _ _ _ _ H4.out).trans (by simp [hd])
theorem VEff.alloc {F : List Nat} {w w' : World} (h : VEff F w w') (o : Obj) : VEff F w (w'.alloc o) :=
 h.trans (VEff.of_below (F := F) ((Below.refl _ _).alloc (Nat.le_refl _) _)) (fun _ hx => .inl hx)
def UnderInv (l : List Item) (A : Option Addr) (c : Nat) (id div : Str) (B : Nat) (done : List (Item × List Str)) (F : List Nat) (W : World) : Prop :=
 F = [B + 1 + 1 + 1] ∧ W.heap[B]? = some (.cells #[.slice A l.length c] 24 (0, 0)) ∧ W.heap[B + 1]? = some (.cells #[vs id] 9 (0, 0)) ∧ W.heap[B + 1 + 1]? = some (.cells #[vs div] 9 (0, 0)) ∧
  W.heap[B + 1 + 1 + 1]? = some (.cells #[.bool (underF id div done)] 4 (0, 0)) ∧ RdI W A l ∧ (∀ b o, A = some ⟨b, o, none⟩ → l ≠ [] → b < B)
theorem lt_of_heap {W : World} {b : Nat} {o : Obj} (h : W.heap[b]? = some o) : b < W.heap.size := by
 rcases Nat.lt_or_ge b W.heap.size with h' | h'
 · exact h'
 · rw [Array.getElem?_eq_none h'] at h; cases h
theorem under_visits (l : List Item) (A : Option Addr) (c : Nat) (id div : Str) (B : Nat) (hl : l.length ≤ 1000000) :
 Visits l (B + 1 + 1 + 1 + 1) 134 #[.pointer (some ⟨B, 0, none⟩), .pointer (some ⟨B + 1, 0, none⟩), .pointer (some ⟨B + 1 + 1, 0, none⟩), .pointer (some ⟨B + 1 + 1 + 1, 0, none⟩)] (UnderInv l A c id div B) where
 enters := enters Tryz.func134 (by kernel_rfl) rfl
 bound := by
  rintro done F W ⟨rfl, _, _, _, h, _⟩ b hb
  simp at hb; subst hb
  exact lt_of_heap h
 keep := by
  rintro done F W W' ⟨rfl, h0, h1, h2, h3, hr, hb⟩ hs hk
  refine ⟨rfl, (hk _ (by omega)).trans h0, (hk _ (by omega)).trans h1, (hk _ (by omega)).trans h2, (hk _ (by omega)).trans h3, fun hne => ?_, hb⟩
  exact Sl.keep hr hs (fun b o hA hlt => hk b (.inl (by have := hb b o hA hne; omega))) hne
 visit := by
  rintro done F W x o O hx ⟨rfl, h0, h1, h2, h3, hr, hb⟩ hrs ho
  have g0 := cell_of_row W B 0 _ _ _ h0
  have g1 := cell_of_row W (B + 1) 0 _ _ _ h1
  have g2 := cell_of_row W (B + 1 + 1) 0 _ _ _ h2
  simp only [List.getElem?_toArray, List.getElem?_cons_zero] at g0 g1 g2
  refine (under1_any l A c done.length x O o id div B (B + 1) (B + 1 + 1) (B + 1 + 1 + 1) _ W hx hr hrs ho ⟨lt_of_heap h0, lt_of_heap h1, lt_of_heap h2, lt_of_heap h3⟩ hl g0 g1 g2 h3).mono ?_
  rintro e w' ⟨rfl, hf, hv⟩
  refine ⟨rfl, [B + 1 + 1 + 1], ⟨rfl, ?_, ?_, ?_, ?_, fun hne => ?_, hb⟩, hv, fun b h => .inl h⟩
  · rw [hv.block _ (lt_of_heap h0) (by simp; omega), h0]
  · rw [hv.block _ (lt_of_heap h1) (by simp), h1]
  · rw [hv.block _ (lt_of_heap h2) (by simp), h2]
  · rw [hf, underF_snoc]
  · exact Sl.keep hr hv.size (fun b o hA hlt => hv.block b hlt (by have := hb b o hA hne; simp; omega)) hne
def underB (l : List Item) (id div : Str) : Bool := walkB l && underF id div (walkL l)
theorem under_any (l : List Item) (A : Option Addr) (c : Nat) (id div : Str) (w : World) (hr : RdI w A l) (hl : l.length ≤ 1000000) (hsh : ∀ x ∈ l, x.Short) :
 Calls Tryz.prog 107 #[.agg #[.slice A l.length c], vs id, vs div] w fun e w' => e = .returned (.bool (underB l id div)) ∧ Below w.heap.size w w' := by
 have HSH := Lib.hid hsh; clear hsh
 have HR := Lib.hid hr; clear hr
 go_enter Tryz.func107, Tryz.ntmps107
 go_wp2_with fail
 have hb4 : Below w.heap.size w ((((w.alloc (.cells #[.slice A l.length c] 24)).alloc (.cells #[vs id] 9)).alloc (.cells #[vs div] 9)).alloc (.cells #[.bool false] 4)) :=
  (((((Below.refl _ _).alloc (Nat.le_refl _) _).alloc (by simp) _).alloc (by simp; omega) _).alloc (by simp; omega) _)
 have hV := under_visits l A c id div w.heap.size hl
 refine (walk_any l A c 134 _ (UnderInv l A c id div w.heap.size) [w.heap.size + 1 + 1 + 1] _ (HR.out.below hb4) hl HSH.out ?_ (by simpa using hV) ?_).mono ?_
 · intro hne b o hA
   obtain ⟨b', o', hA', hlt, _⟩ := HR.out hne
   rw [hA] at hA'
   cases hA'
   simp; omega
 · refine ⟨rfl, ?_, ?_, ?_, ?_, HR.out.below hb4, fun b o hA hne => ?_⟩
   · exact heap_old_at (by simp; try omega) (heap_old_at (by simp; try omega) (heap_old_at (by simp) (heap_new_at rfl)))
   · exact heap_old_at (by simp; try omega) (heap_old_at (by simp) (heap_new_at (by simp)))
   · exact heap_old_at (by simp) (heap_new_at (by simp))
   · exact heap_new_at (by simp)
   · obtain ⟨b', o', hA', hlt, _⟩ := HR.out hne
     rw [hA] at hA'
     cases hA'
     exact hlt
 rintro e w1 ⟨rfl, done, F, ⟨rfl, _, _, _, hf, _⟩, hv, _, hd⟩
 have hc3 := cell_of_row w1 (w.heap.size + 1 + 1 + 1) 0 _ _ _ hf
 simp only [List.getElem?_toArray, List.getElem?_cons_zero] at hc3
 have HV := Lib.hid hv; clear hv
 have HB4 := Lib.hid hb4; clear hb4
 have HD := Lib.hid hd; clear hd
 clear hf hV
 have hfin : Below w.heap.size w w1 := HB4.out.trans ⟨HV.out.os, HV.out.tape, HV.out.output, HV.out.size, fun k hk => HV.out.block k (by simp; omega) (by simp; omega)⟩
 have HFIN := Lib.hid hfin; clear hfin
 cases hw : walkB l with
 | false =>
   have Hw := Lib.hid hw; clear hw
   go_wp2_with fail
   go_ret
   exact ⟨ret_bool (by unfold underB; rw [Hw.out]; rfl), HFIN.out⟩
 | true =>
   have Hw := Lib.hid hw
   have Hdn := Lib.hid (HD.out hw)
   clear hw
   go_wp2_with fail
   go_ret
   exact ⟨ret_bool (by unfold underB; rw [Hw.out, ← Hdn.out]; rfl), HFIN.out⟩
end Go.Proofs.YtecnlfaholmpoaaGreat
set_option maxRecDepth 100000
set_option maxHeartbeats 2000000
namespace Go.Proofs.YtecnlfaholmpoaaGreat
open Go.RowKit
def belowF (id : Str) (done : List (Item × List Str)) : List Str := done.filterMap fun xo => if hasS xo.2 id then some xo.1.id else none
theorem belowF_snoc (id : Str) (done : List (Item × List Str)) (x : Item) (o : List Str) : belowF id (done ++ [(x, o)]) = if hasS o id then belowF id done ++ [x.id] else belowF id done := by
 unfold belowF
 rw [List.filterMap_append]
 cases h : hasS o id <;> simp [h]
theorem belowF_len (id : Str) (done : List (Item × List Str)) : (belowF id done).length ≤ done.length := List.length_filterMap_le _ _
theorem grown_setCell (w : World) (p : Addr) (u : Value) : w.grownBy (w.setCell p u) (some p.block) :=
 ⟨rfl, rfl, rfl, by simp [World.setCell], fun i _ hne => Below.heap_setCell w p u i (fun h => hne (by rw [h]))⟩
theorem below1_done {w w1 : World} {ob base m gg cap : Nat} {v : Value} {ob1 : Obj} {vsx : Str} {outs : List Str}
 (h4 : w.heap[ob]? = some (.cells #[v] 89 (0, 0))) (hlt : ob < w.heap.size) (hob : v.ownBlock ≠ some ob)
 (hown : w1.ownsRow base 9 1 (.slice (some ⟨gg, 0, none⟩) (m + 1) cap) (m + 1) (outs.map vs ++ [vs vsx])) (hg : (w.drew.alloc ob1).grownBy w1 v.ownBlock) (hat : v.ownBlock = some gg ∨ gg = w.heap.size + 1) :
 (w1.setCell ⟨ob, 0, none⟩ (.slice (some ⟨gg, 0, none⟩) (m + 1) cap)).heap[ob]? = some (.cells #[.slice (some ⟨gg, 0, none⟩) (m + 1) cap] 89 (0, 0)) ∧
   (w1.setCell ⟨ob, 0, none⟩ (.slice (some ⟨gg, 0, none⟩) (m + 1) cap)).ownsRow base 9 1 (.slice (some ⟨gg, 0, none⟩) (m + 1) cap) (m + 1) ((outs ++ [vsx]).map vs) ∧
   (v.ownBlock = some gg ∨ w.heap.size ≤ gg) ∧ ob ≠ gg ∧ VEff (ob :: v.ownBlock.toList) w (w1.setCell ⟨ob, 0, none⟩ (.slice (some ⟨gg, 0, none⟩) (m + 1) cap)) := by
 have hne : ob ≠ gg := by
  rcases hat with h | h
  · rintro rfl; exact hob h
  · omega
 have hsz := hg.size
 simp at hsz
 have h1 : w1.heap[ob]? = some (.cells #[v] 89 (0, 0)) := by
  rw [hg.block _ (by simp; omega) (Ne.symm hob)]
  exact (Below.heap_alloc w.drew ob1 ob hlt).trans h4
 refine ⟨heap_setCell_same _ _ _ _ _ _ h1, ?_, hat.imp id (fun h => by omega), hne, ?_⟩
 · rw [List.map_append]
   exact World.ownsRow.kept hown (grown_setCell w1 ⟨ob, 0, none⟩ _) (.inr (by simp [Value.ownBlock]; exact fun h => hne h.symm))
 · refine VEff.setCell ?_ (.inl (by simp)) _
   refine ⟨hg.os, hg.tape, hg.output, by omega, fun k hk hn => ?_⟩
   rw [hg.block k (by simp; omega) (fun h => hn (by rw [← h]; simp))]
   exact Below.heap_alloc w.drew ob1 k hk
theorem below1_any (l : List Item) (A : Option Addr) (c k : Nat) (x : Item) (O : Option Addr) (o : List Str) (id : Str) (cb ib ob base m : Nat) (v : Value) (outs : List Str) (w : World)
 (hx : l[k]? = some x) (hr : RdI w A l) (hO : RdS w O o) (ho : o.length ≤ 1000000) (hlt : cb < w.heap.size ∧ ib < w.heap.size ∧ ob < w.heap.size) (hl : l.length ≤ 1000000)
 (h1 : w.cell? ⟨cb, 0, none⟩ = some (.slice A l.length c)) (h2 : w.cell? ⟨ib, 0, none⟩ = some (vs id)) (h4 : w.heap[ob]? = some (.cells #[v] 89 (0, 0)))
 (hown : w.ownsRow base 9 1 v m (outs.map vs)) (hbase : base ≤ w.heap.size) (hm : m ≤ 1000000) (hob : v.ownBlock ≠ some ob) (hcb : v.ownBlock ≠ some cb) (hib : ∀ b o, A = some ⟨b, o, none⟩ → v.ownBlock ≠ some b ∧ b ≠ ob) (hne : cb ≠ ob) (hin : hasS o id = true) :
 Calls Tryz.prog 158 #[.int .i64 k, .slice O o.length o.length, .pointer (some ⟨ib, 0, none⟩), .pointer (some ⟨ob, 0, none⟩), .pointer (some ⟨cb, 0, none⟩)] w
  fun e w' => e = .returned (.tuple #[]) ∧ ∃ g cap, w'.heap[ob]? = some (.cells #[.slice (some ⟨g, 0, none⟩) (m + 1) cap] 89 (0, 0)) ∧ w'.ownsRow base 9 1 (.slice (some ⟨g, 0, none⟩) (m + 1) cap) (m + 1) ((outs ++ [x.id]).map vs) ∧
   (v.ownBlock = some g ∨ w.heap.size ≤ g) ∧ ob ≠ g ∧ VEff (ob :: v.ownBlock.toList) w w' := by
 obtain ⟨b, of, rfl, hbs, c0, c1, c2, c3, c4, c5, c6⟩ := hr.item hx
 have hk : k < l.length := (List.getElem?_eq_some_iff.1 hx).1
 have H4 := Lib.hid h4
 have h6 := cell_of_row w ob 0 _ _ _ h4
 have h7 := frozen_of_row w ob 0 _ _ h4
 simp only [List.getElem?_toArray, List.getElem?_cons_zero] at h6
 have HMEM := Lib.hid (containsS_any o O o.length id w hO (by unfold maxLen; omega))
 have Hin := Lib.hid hin
 obtain ⟨i0, hi0, hz0, hz1, hz2⟩ := info_parts info9
 have Hi0 := Lib.hid hi0; clear hi0
 have Hz0 := Lib.hid hz0; clear hz0
 have Hz1 := Lib.hid hz1; clear hz1
 have Hz2 := Lib.hid hz2; clear hz2
 have HOWN := Lib.hid hown; clear hown
 obtain ⟨hbb, hbo⟩ := hib b of rfl
 have hne1 : (⟨ob, 0, none⟩ : Addr) ≠ ⟨cb, 0, none⟩ := fun h => hne (by injection h with h; exact h.symm)
 have hne2 : (⟨ob, 0, none⟩ : Addr) ≠ ⟨b, of + k * 7 + 1, none⟩ := fun h => hbo (by injection h with h; exact h.symm)
 have hk0 : (0 : Int) ≤ (k : Int) := Int.natCast_nonneg _
 have hk1 : (k : Int) < (l.length : Int) := by omega
 clear hr hx c0 c2 c3 c4 c5 c6 h4 hO ho hin
 go_enter Tryz.func158, Tryz.ntmps158
 go_wp2_with (go_at_call 113; refine HMEM.out.mono ?_; rintro e w1 ⟨rfl, rfl⟩; rw [Hin.out])
 go_region_law
  ((refine step_append_lies _ (by rfl) _ _ _ (by rfl) base 9 i0 _ 1 16 Tryz.underlying89 Hi0.out Hz0.out Hz1.out Hz2.out rfl (by omega) v m (outs.map vs) (by rfl) ((HOWN.out.alloc _).drew)
      ⟨w.heap.size, 0, none⟩ 1 1 [vs x.id] (by rfl) (by rfl) (World.news_of_block (cs := #[vs x.id]) (t := 9) (fr := (0, 0)) (heap_alloc_new w _)) one_cell
      (by omega) (le_maxLen (by omega)) (by omega) (by simp; omega) (w.heap.size + 1) (by simp) ?_; intro gg cap w1 hown1 hgrow hat hlt1; have hz1 := (hgrow.cell_far ⟨ob, 0, none⟩ (by simp; omega) (Ne.symm hob)); have hz2 := (hgrow.frozen_far ⟨ob, 0, none⟩ (by simp; omega) (Ne.symm hob)); simp at hz1 hz2))
 all_goals
  go_end0
  exact ⟨rfl, gg, cap, below1_done H4.out hlt.2.2 hob hown1 hgrow hat⟩
theorem below1_not (k : Int) (O : Option Addr) (o : List Str) (id : Str) (ib : Nat) (p q : Value) (w : World) (hO : RdS w O o) (ho : o.length ≤ 1000000) (h2 : w.cell? ⟨ib, 0, none⟩ = some (vs id)) (hin : hasS o id = false) :
 Calls Tryz.prog 158 #[.int .i64 k, .slice O o.length o.length, .pointer (some ⟨ib, 0, none⟩), p, q] w fun e w' => e = .returned (.tuple #[]) ∧ w = w' := by
 have HMEM := Lib.hid (containsS_any o O o.length id w hO (by unfold maxLen; omega))
 have Hin := Lib.hid hin
 clear hO ho hin
 go_enter Tryz.func158, Tryz.ntmps158
 go_wp2_with (go_at_call 113; refine HMEM.out.mono ?_; rintro e w1 ⟨rfl, rfl⟩; rw [Hin.out])
 go_end0
 exact ⟨rfl, rfl⟩
def BelowInv (l : List Item) (A : Option Addr) (c : Nat) (id : Str) (B : Nat) (done : List (Item × List Str)) (F : List Nat) (W : World) : Prop :=
 ∃ v, F = (B + 1 + 1) :: v.ownBlock.toList ∧ W.heap[B]? = some (.cells #[.slice A l.length c] 24 (0, 0)) ∧ W.heap[B + 1]? = some (.cells #[vs id] 9 (0, 0)) ∧ W.heap[B + 1 + 1]? = some (.cells #[v] 89 (0, 0)) ∧
  W.ownsRow (B + 1 + 1 + 1) 9 1 v (belowF id done).length ((belowF id done).map vs) ∧ RdI W A l ∧ (∀ b o, A = some ⟨b, o, none⟩ → l ≠ [] → b < B) ∧ done.length ≤ l.length
theorem own_ge {W : World} {base m : Nat} {t : TypeId} {v : Value} {xs : List Value} (h : W.ownsRow base t 1 v m xs) : ∀ b, v.ownBlock = some b → base ≤ b ∧ b < W.heap.size := fun b hb => World.ownsRow.lt h b hb
theorem own_keep {W W' : World} {base m : Nat} {t : TypeId} {v : Value} {xs : List Value} (h : W.ownsRow base t 1 v m xs) (hk : ∀ b, v.ownBlock = some b → W'.heap[b]? = W.heap[b]?) : W'.ownsRow base t 1 v m xs := by
 refine ⟨h.1, ?_⟩
 rcases h.2 with h2 | ⟨g, cap, cur, rfl, r2, r3, r⟩
 · exact .inl h2
 · exact .inr ⟨g, cap, cur, rfl, r2, (hk g rfl).trans r3, r⟩
theorem below_visits (l : List Item) (A : Option Addr) (c : Nat) (id : Str) (B : Nat) (hl : l.length ≤ 1000000) :
 Visits l (B + 1 + 1 + 1) 158 #[.pointer (some ⟨B + 1, 0, none⟩), .pointer (some ⟨B + 1 + 1, 0, none⟩), .pointer (some ⟨B, 0, none⟩)] (BelowInv l A c id B) where
 enters := enters Tryz.func158 (by kernel_rfl) rfl
 bound := by
  rintro done F W ⟨v, rfl, _, _, h2, hown, _⟩ b hb
  simp at hb
  rcases hb with rfl | hb
  · exact lt_of_heap h2
  · exact (own_ge hown b hb).2
 keep := by
  rintro done F W W' ⟨v, rfl, h0, h1, h2, hown, hr, hb, hd⟩ hs hk
  refine ⟨v, rfl, (hk _ (by omega)).trans h0, (hk _ (by omega)).trans h1, (hk _ (by omega)).trans h2, own_keep hown (fun b h => hk b (.inr (by simp [h]))), fun hne => ?_, hb, hd⟩
  exact Sl.keep hr hs (fun b o hA hlt => hk b (.inl (by have := hb b o hA hne; omega))) hne
 visit := by
  rintro done F W x o O hx ⟨v, rfl, h0, h1, h2, hown, hr, hb, hd⟩ hrs ho
  have hk : done.length < l.length := (List.getElem?_eq_some_iff.1 hx).1
  have hne : l ≠ [] := by rintro rfl; simp at hk
  have g0 := cell_of_row W B 0 _ _ _ h0
  have g1 := cell_of_row W (B + 1) 0 _ _ _ h1
  simp only [List.getElem?_toArray, List.getElem?_cons_zero] at g0 g1
  have hge := own_ge hown
  have hln := belowF_len id done
  cases hin : hasS o id with
  | false =>
    refine (below1_not _ O o id (B + 1) _ _ W hrs ho g1 hin).mono ?_
    rintro e w' ⟨rfl, rfl⟩
    exact ⟨rfl, _, ⟨v, rfl, h0, h1, h2, by rw [belowF_snoc, hin]; exact hown, hr, hb, by simp; omega⟩, VEff.refl _ _, fun b h => .inl h⟩
  | true =>
    refine (below1_any l A c done.length x O o id B (B + 1) (B + 1 + 1) (B + 1 + 1 + 1) _ v (belowF id done) W hx hr hrs ho ⟨lt_of_heap h0, lt_of_heap h1, lt_of_heap h2⟩ hl g0 g1 h2 hown (lt_of_heap h2) (by omega) ?_ ?_ ?_ (by omega) hin).mono ?_
    · intro h; have := (hge _ h).1; omega
    · intro h; have := (hge _ h).1; omega
    · intro b o hA
      have := hb b o hA hne
      exact ⟨fun h => by have := (hge _ h).1; omega, by omega⟩
    · rintro e w' ⟨rfl, g, cap, hc, hown', hg, hgo, hv⟩
      have hnot : ∀ b, b ≤ B + 1 → b ∉ (B + 1 + 1) :: v.ownBlock.toList := by
       intro b hbb hmem
       simp at hmem
       rcases hmem with h | h
       · omega
       · have := (hge _ h).1; omega
      refine ⟨rfl, _, ⟨.slice (some ⟨g, 0, none⟩) ((belowF id done).length + 1) cap, rfl, ?_, ?_, hc, ?_, fun hne => ?_, hb, by simp; omega⟩, hv, ?_⟩
      · rw [hv.block _ (lt_of_heap h0) (hnot _ (by omega)), h0]
      · rw [hv.block _ (lt_of_heap h1) (hnot _ (by omega)), h1]
      · rw [belowF_snoc, hin]
        simpa using hown'
      · exact Sl.keep hr hv.size (fun b o hA hlt => hv.block b hlt (hnot _ (by have := hb b o hA hne; omega))) hne
      · intro b hb'
        simp [Value.ownBlock] at hb'
        rcases hb' with rfl | rfl
        · exact .inl (by simp)
        · rcases hg with h | h
          · exact .inl (by simp [h])
          · exact .inr h
def belowL (l : List Item) (id : Str) : List Str := if walkB l then belowF id (walkL l) else []
theorem own_slice {W : World} {base m : Nat} {v : Value} {o : List Str} (h : W.ownsRow base 9 1 v m (o.map vs)) : ∃ O cc, v = .slice O m cc ∧ RdS W O o ∧ (∀ b f, O = some ⟨b, f, none⟩ → base ≤ b) := by
 have hlen : o.length = m := by have := h.1; simpa using this
 rcases h.2 with ⟨rfl, rfl⟩ | ⟨g, cap, cur, rfl, r2, r3, r⟩
 · have : o = [] := List.eq_nil_of_length_eq_zero hlen
   subst this
   exact ⟨none, 0, rfl, Sl.nil, by simp⟩
 · refine ⟨some ⟨g, 0, none⟩, cap, rfl, ?_, fun b f hA => by cases hA; exact r2⟩
   intro hne
   obtain ⟨g', cap', hv, _, _, _, hrd⟩ := own_reads h (by rw [← hlen]; exact List.length_pos_iff.2 hne)
   cases hv
   exact hrd hne
theorem below_any (l : List Item) (A : Option Addr) (c : Nat) (id : Str) (w : World) (hr : RdI w A l) (hl : l.length ≤ 1000000) (hsh : ∀ x ∈ l, x.Short) :
 Calls Tryz.prog 135 #[.agg #[.slice A l.length c], vs id] w fun e w' => ∃ O cc, e = .returned (.slice O (belowL l id).length cc) ∧ RdS w' O (belowL l id) ∧ (∀ b f, O = some ⟨b, f, none⟩ → w.heap.size ≤ b) ∧ Below w.heap.size w w' := by
 have HSH := Lib.hid hsh; clear hsh
 have HR := Lib.hid hr; clear hr
 go_enter Tryz.func135, Tryz.ntmps135
 go_wp2_with fail
 have hb4 : Below w.heap.size w (((w.alloc (.cells #[.slice A l.length c] 24)).alloc (.cells #[vs id] 9)).alloc (.cells #[.slice none 0 0] 89)) :=
  ((((Below.refl _ _).alloc (Nat.le_refl _) _).alloc (by simp) _).alloc (by simp; omega) _)
 have hV := below_visits l A c id w.heap.size hl
 refine (walk_any l A c 158 _ (BelowInv l A c id w.heap.size) [w.heap.size + 1 + 1] _ (HR.out.below hb4) hl HSH.out ?_ (by simpa using hV) ?_).mono ?_
 · intro hne b o hA
   obtain ⟨b', o', hA', hlt, _⟩ := HR.out hne
   rw [hA] at hA'
   cases hA'
   simp; omega
 · refine ⟨.slice none 0 0, rfl, ?_, ?_, ?_, World.ownsRow_nil _ _ _ _, HR.out.below hb4, fun b o hA hne => ?_, by simp⟩
   · exact heap_old_at (by simp; try omega) (heap_old_at (by simp) (heap_new_at rfl))
   · exact heap_old_at (by simp) (heap_new_at (by simp))
   · exact heap_new_at (by simp)
   · obtain ⟨b', o', hA', hlt, _⟩ := HR.out hne
     rw [hA] at hA'
     cases hA'
     exact hlt
 rintro e w1 ⟨rfl, done, F, ⟨v, rfl, _, _, hf, hown, _⟩, hv, _, hd⟩
 have hc3 := cell_of_row w1 (w.heap.size + 1 + 1) 0 _ _ _ hf
 simp only [List.getElem?_toArray, List.getElem?_cons_zero] at hc3
 have HV := Lib.hid hv; clear hv
 have HB4 := Lib.hid hb4; clear hb4
 have HD := Lib.hid hd; clear hd
 have HOWN := Lib.hid hown; clear hown
 clear hf hV
 have hfin : Below w.heap.size w w1 := HB4.out.trans ⟨HV.out.os, HV.out.tape, HV.out.output, HV.out.size, fun k hk => HV.out.block k (by simp; omega) (by simp; omega)⟩
 have HFIN := Lib.hid hfin; clear hfin
 cases hw : walkB l with
 | false =>
   have Hw := Lib.hid hw; clear hw
   go_wp2_with fail
   go_ret
   have hnil : belowL l id = [] := by unfold belowL; rw [Hw.out]; rfl
   rw [hnil]
   exact ⟨none, 0, rfl, Sl.nil, by simp, HFIN.out⟩
 | true =>
   have Hw := Lib.hid hw
   have Hdn := Lib.hid (HD.out hw)
   clear hw
   go_wp2_with fail
   go_ret
   have hL : belowL l id = belowF id done := by unfold belowL; rw [Hw.out, ← Hdn.out]; rfl
   rw [hL]
   obtain ⟨O, cc, hvv, hrd, hge⟩ := own_slice HOWN.out
   exact ⟨O, cc, by rw [← hvv]; rfl, hrd, fun b f hA => by have := hge b f hA; omega, HFIN.out⟩
end Go.Proofs.YtecnlfaholmpoaaGreat
