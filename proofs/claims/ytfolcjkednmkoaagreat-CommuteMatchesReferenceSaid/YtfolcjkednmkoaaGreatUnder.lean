/- code.Under. -/
import Derived.Test.YtfolcjkednmkoaaGreatValid
set_option linter.unusedVariables false
set_option linter.unusedSimpArgs false
set_option maxRecDepth 20000
set_option maxHeartbeats 1000000
namespace Go.Proofs.YtfolcjkednmkoaaGreat
open Go.RowKit
def underF (id div : Str) (done : List (Item × List Str)) : Bool := done.foldl (fun f xo => if xo.1.id == id then (div == [] || hasS xo.2 div) else f) false
theorem underF_snoc (id div : Str) (done : List (Item × List Str)) (x : Item) (o : List Str) : underF id div (done ++ [(x, o)]) = if x.id == id then (div == [] || hasS o div) else underF id div done := by
 simp [underF]
theorem VEff.drewN {F : List Nat} {w w' : World} (h : VEff F w w') (n : Nat) : VEff F w (w'.drewN n) := ⟨h.os, h.tape, h.output, h.size, h.block⟩
theorem VEff.setCell {F : List Nat} {w w' : World} (h : VEff F w w') {p : Addr} (hp : p.block ∈ F ∨ w.heap.size ≤ p.block) (u : Value) : VEff F w (w'.setCell p u) :=
 ⟨h.os, h.tape, h.output, by simpa using h.size, fun k hk hn => (Below.heap_setCell w' p u k (by rintro rfl; rcases hp with hp | hp <;> first | exact hn hp | omega)).trans (h.block k hk hn)⟩
theorem under1_any (l : List Item) (A : Option Addr) (c k : Nat) (x : Item) (O : Option Addr) (o : List Str) (id div : Str) (cb ib db fb : Nat) (f : Bool) (w : World)
 (hx : l[k]? = some x) (hr : RdI w A l) (hO : RdS w O o) (ho : o.length ≤ 1000000) (hlt : cb < w.heap.size ∧ ib < w.heap.size ∧ db < w.heap.size ∧ fb < w.heap.size) (hl : l.length ≤ 1000000)
 (h1 : w.cell? ⟨cb, 0, none⟩ = some (.slice A l.length c)) (h2 : w.cell? ⟨ib, 0, none⟩ = some (vs id)) (h3 : w.cell? ⟨db, 0, none⟩ = some (vs div)) (h4 : w.heap[fb]? = some (.cells #[.bool f] 4 (0, 0))) :
 Calls Tryz.prog 104 #[.int .i64 k, .slice O o.length o.length, .pointer (some ⟨cb, 0, none⟩), .pointer (some ⟨ib, 0, none⟩), .pointer (some ⟨db, 0, none⟩), .pointer (some ⟨fb, 0, none⟩)] w
  fun e w' => e = .returned (.tuple #[]) ∧ w'.heap[fb]? = some (.cells #[.bool (if x.id == id then (div == [] || hasS o div) else f)] 4 (0, 0)) ∧ VEff [fb] w w' := by
 obtain ⟨b, of, rfl, hbs, c0, c1, c2, c3, c4, c5, c6⟩ := hr.item hx
 have hk : k < l.length := (List.getElem?_eq_some_iff.1 hx).1
 have H4 := Lib.hid h4
 have h6 := cell_of_row w fb 0 _ _ _ h4
 have h7 := frozen_of_row w fb 0 _ _ h4
 simp only [List.getElem?_toArray, List.getElem?_cons_zero] at h6
 have hmem : ∀ W, RdS W O o → Calls Tryz.prog 39 #[.slice O o.length o.length, vs div] W fun e w' => e = .returned (.bool (hasS o div)) ∧ W = w' :=
  fun W hW => containsS_any o O o.length div W hW (by unfold maxLen; omega)
 have HMEM := Lib.hid hmem
 have HO := Lib.hid hO; clear hO
 have HO' := Lib.hid ho
 clear hr hx c0 c2 c3 c4 c5 c6 h4 hmem
 cases hid : (x.id == id)
 all_goals
  go_enter Tryz.func104, Tryz.ntmps104
  go_wp2_with fail
  go_quiet (fail)
 · go_wp2_with fail
   go_end0
   exact ⟨rfl, by simpa using H4.out, (VEff.refl _ _).drewN _⟩
 · cases hdv : div.isEmpty with
   | true =>
     have Hd : Hid ((div == []) = true) := by cases div <;> first | rfl | cases hdv
     have hdv' : div = [] := by simpa using hdv
     subst hdv'
     go_wp2_with fail
     go_end0
     exact ⟨rfl, heap_setCell_same _ _ _ _ _ _ H4.out, ((VEff.refl _ _).drewN _).setCell (.inl (by simp)) _⟩
   | false =>
     have hd : ¬ div = [] := by simpa using hdv
     go_wp2_with (go_at_call 39; refine (HMEM.out (World.drewN w _) HO.out).mono ?_; rintro e w1 ⟨rfl, rfl⟩)
     go_end0
     refine ⟨rfl, ?_, ((VEff.refl _ _).drewN _).setCell (.inl (by simp)) _⟩
     exact (heap_setCell_same (World.drewN w _) _ _ _ _ _ H4.out).trans (by simp [hd])
theorem VEff.alloc {F : List Nat} {w w' : World} (h : VEff F w w') (o : Obj) : VEff F w (w'.alloc o) :=
 h.trans (VEff.of_below (F := F) ((Below.refl _ _).alloc (Nat.le_refl _) _)) (fun _ hx => .inl hx)
def UnderInv (l : List Item) (A : Option Addr) (c : Nat) (id div : Str) (B : Nat) (done : List (Item × List Str)) (F : List Nat) (W : World) : Prop :=
 F = [B + 1 + 1 + 1] ∧ W.heap[B]? = some (.cells #[.slice A l.length c] 24 (0, 0)) ∧ W.heap[B + 1]? = some (.cells #[vs id] 9 (0, 0)) ∧ W.heap[B + 1 + 1]? = some (.cells #[vs div] 9 (0, 0)) ∧
  W.heap[B + 1 + 1 + 1]? = some (.cells #[.bool (underF id div done)] 4 (0, 0)) ∧ RdI W A l ∧ (∀ b o, A = some ⟨b, o, none⟩ → l ≠ [] → b < B)
theorem lt_of_heap {W : World} {b : Nat} {o : Obj} (h : W.heap[b]? = some o) : b < W.heap.size := by
 rcases Nat.lt_or_ge b W.heap.size with h' | h'
 · exact h'
 · rw [Array.getElem?_eq_none h'] at h; cases h
theorem under_visits (l : List Item) (A : Option Addr) (c : Nat) (id div : Str) (B : Nat) (hl : l.length ≤ 1000000) :
 Visits l (B + 1 + 1 + 1 + 1) 104 #[.pointer (some ⟨B, 0, none⟩), .pointer (some ⟨B + 1, 0, none⟩), .pointer (some ⟨B + 1 + 1, 0, none⟩), .pointer (some ⟨B + 1 + 1 + 1, 0, none⟩)] (UnderInv l A c id div B) where
 enters := enters Tryz.func104 (by kernel_rfl) rfl
 bound := by
  rintro done F W ⟨rfl, _, _, _, h, _⟩ b hb
  simp at hb; subst hb
  exact lt_of_heap h
 keep := by
  rintro done F W W' ⟨rfl, h0, h1, h2, h3, hr, hb⟩ hs hk
  refine ⟨rfl, (hk _ (by omega)).trans h0, (hk _ (by omega)).trans h1, (hk _ (by omega)).trans h2, (hk _ (by omega)).trans h3, fun hne => ?_, hb⟩
  exact Sl.keep hr hs (fun b o hA hlt => hk b (.inl (by have := hb b o hA hne; omega))) hne
 visit := by
  rintro done F W x o O hx ⟨rfl, h0, h1, h2, h3, hr, hb⟩ hrs ho
  have g0 := cell_of_row W B 0 _ _ _ h0
  have g1 := cell_of_row W (B + 1) 0 _ _ _ h1
  have g2 := cell_of_row W (B + 1 + 1) 0 _ _ _ h2
  simp only [List.getElem?_toArray, List.getElem?_cons_zero] at g0 g1 g2
  refine (under1_any l A c done.length x O o id div B (B + 1) (B + 1 + 1) (B + 1 + 1 + 1) _ W hx hr hrs ho ⟨lt_of_heap h0, lt_of_heap h1, lt_of_heap h2, lt_of_heap h3⟩ hl g0 g1 g2 h3).mono ?_
  rintro e w' ⟨rfl, hf, hv⟩
  refine ⟨rfl, [B + 1 + 1 + 1], ⟨rfl, ?_, ?_, ?_, ?_, fun hne => ?_, hb⟩, hv, fun b h => .inl h⟩
  · rw [hv.block _ (lt_of_heap h0) (by simp; omega), h0]
  · rw [hv.block _ (lt_of_heap h1) (by simp), h1]
  · rw [hv.block _ (lt_of_heap h2) (by simp), h2]
  · rw [hf, underF_snoc]
  · exact Sl.keep hr hv.size (fun b o hA hlt => hv.block b hlt (by have := hb b o hA hne; simp; omega)) hne
def underB (l : List Item) (id div : Str) : Bool := walkB l && underF id div (walkL l)
theorem under_any (l : List Item) (A : Option Addr) (c : Nat) (id div : Str) (w : World) (hr : RdI w A l) (hl : l.length ≤ 1000000) (hsh : ∀ x ∈ l, x.Short) :
 Calls Tryz.prog 80 #[.agg #[.slice A l.length c], vs id, vs div] w fun e w' => e = .returned (.bool (underB l id div)) ∧ Below w.heap.size w w' := by
 have HSH := Lib.hid hsh; clear hsh
 have HR := Lib.hid hr; clear hr
 go_enter Tryz.func80, Tryz.ntmps80
 go_wp2_with fail
 have hb4 : Below w.heap.size w ((((w.alloc (.cells #[.slice A l.length c] 24)).alloc (.cells #[vs id] 9)).alloc (.cells #[vs div] 9)).alloc (.cells #[.bool false] 4)) :=
  (((((Below.refl _ _).alloc (Nat.le_refl _) _).alloc (by simp) _).alloc (by simp; omega) _).alloc (by simp; omega) _)
 have hV := under_visits l A c id div w.heap.size hl
 refine (walk_any l A c 104 _ (UnderInv l A c id div w.heap.size) [w.heap.size + 1 + 1 + 1] _ (HR.out.below hb4) hl HSH.out ?_ (by simpa using hV) ?_).mono ?_
 · intro hne b o hA
   obtain ⟨b', o', hA', hlt, _⟩ := HR.out hne
   rw [hA] at hA'
   cases hA'
   simp; omega
 · refine ⟨rfl, ?_, ?_, ?_, ?_, HR.out.below hb4, fun b o hA hne => ?_⟩
   · exact heap_old_at (by simp; try omega) (heap_old_at (by simp; try omega) (heap_old_at (by simp) (heap_new_at rfl)))
   · exact heap_old_at (by simp; try omega) (heap_old_at (by simp) (heap_new_at (by simp)))
   · exact heap_old_at (by simp) (heap_new_at (by simp))
   · exact heap_new_at (by simp)
   · obtain ⟨b', o', hA', hlt, _⟩ := HR.out hne
     rw [hA] at hA'
     cases hA'
     exact hlt
 rintro e w1 ⟨rfl, done, F, ⟨rfl, _, _, _, hf, _⟩, hv, _, hd⟩
 have hc3 := cell_of_row w1 (w.heap.size + 1 + 1 + 1) 0 _ _ _ hf
 simp only [List.getElem?_toArray, List.getElem?_cons_zero] at hc3
 have HV := Lib.hid hv; clear hv
 have HB4 := Lib.hid hb4; clear hb4
 have HD := Lib.hid hd; clear hd
 clear hf hV
 have hfin : Below w.heap.size w w1 := HB4.out.trans ⟨HV.out.os, HV.out.tape, HV.out.output, HV.out.size, fun k hk => HV.out.block k (by simp; omega) (by simp; omega)⟩
 have HFIN := Lib.hid hfin; clear hfin
 cases hw : walkB l with
 | false =>
   have Hw := Lib.hid hw; clear hw
   go_wp2_with fail
   go_ret
   exact ⟨ret_bool (by unfold underB; rw [Hw.out]; rfl), HFIN.out⟩
 | true =>
   have Hw := Lib.hid hw
   have Hdn := Lib.hid (HD.out hw)
   clear hw
   go_wp2_with fail
   go_ret
   exact ⟨ret_bool (by unfold underB; rw [Hw.out, ← Hdn.out]; rfl), HFIN.out⟩
end Go.Proofs.YtfolcjkednmkoaaGreat
