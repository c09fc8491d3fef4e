/- What Result takes and leaves; patches that commute, in the opposite order: plain words. slices.DeleteFunc at clauses. conference.open. What the loop of Result works on: the code's box, the rows of what is taken and of what is left. -/
import Derived.Test.YtecnlfaholmpoaaGreatJC13
import Derived.Test.YtecnlfaholmpoaaGreatJC31
import Derived.Test.YtecnlfaholmpoaaGreatJC30
import Derived.Test.YtecnlfaholmpoaaGreatJC2
import Derived.Test.YtecnlfaholmpoaaGreatJC28
import Derived.Test.YtecnlfaholmpoaaGreatJC21
set_option linter.unusedVariables false
set_option linter.unusedSimpArgs false
namespace Go.Proofs.YtecnlfaholmpoaaGreat
abbrev ResS := List Item × List Patch × List Stamp
def resStep (s : ResS) (c : Clause) : ResS :=
 if (applyF s.1 c.patch).2 = 0 then ((applyF s.1 c.patch).1, s.2.1 ++ [c.patch], s.2.2) else (s.1, s.2.1, s.2.2 ++ [c.id])
def resS (l : List Item) (cs : List Clause) : ResS := cs.foldl resStep (l, [], [])
theorem resS_snoc (l : List Item) (cs : List Clause) (c : Clause) : resS l (cs ++ [c]) = resStep (resS l cs) c := by
 unfold resS
 rw [List.foldl_append]
 rfl
theorem res_fold (s : ResS) : ∀ cs : List Clause, (∃ t, (cs.foldl resStep s).2.1 = s.2.1 ++ t) ∧ ∃ t, (cs.foldl resStep s).2.2 = s.2.2 ++ t
 | [] => ⟨⟨[], by simp⟩, [], by simp⟩
 | c :: r => by
   obtain ⟨⟨t1, h1⟩, t2, h2⟩ := res_fold (resStep s c) r
   rw [List.foldl_cons]
   unfold resStep at h1 h2 ⊢
   split at h1
   · rename_i hc
     rw [if_pos hc] at h2
     rw [if_pos hc]
     exact ⟨⟨[c.patch] ++ t1, by rw [h1]; simp⟩, t2, h2⟩
   · rename_i hc
     rw [if_neg hc] at h2
     rw [if_neg hc]
     exact ⟨⟨t1, h1⟩, [c.id] ++ t2, by rw [h2]; simp⟩
theorem res_prefix (l : List Item) (cs : List Clause) (n : Nat) : (∃ t, (resS l cs).2.1 = (resS l (cs.take n)).2.1 ++ t) ∧ ∃ t, (resS l cs).2.2 = (resS l (cs.take n)).2.2 ++ t := by
 have h := res_fold (resS l (cs.take n)) (cs.drop n)
 have e : (cs.drop n).foldl resStep (resS l (cs.take n)) = resS l cs := by
  unfold resS
  rw [← List.foldl_append, List.take_append_drop]
 rw [e] at h
 exact h
theorem run_back {a : Patch} : ∀ (r : List Patch) {l d : List Item}, walkB l = true → (∀ b ∈ r, commF a b = true) → Run l (a :: r) d → Run l (r ++ [a]) d
 | [], l, d, _, _, h => h
 | b :: v, l, d, hw, hc, h => by
   have h1 := run_swap hw (hc b (by simp)) h
   rw [show b :: a :: v = [b] ++ (a :: v) from rfl] at h1
   obtain ⟨m, h2, h3⟩ := run_append.1 h1
   have h4 := run_back v (run_good hw h2) (fun x hx => hc x (by simp [hx])) h3
   rw [List.cons_append, show b :: (v ++ [a]) = [b] ++ (v ++ [a]) from rfl]
   exact run_append.2 ⟨m, h2, h4⟩
theorem run_rev : ∀ (ps : List Patch) {l d : List Item}, walkB l = true → ps.Pairwise (fun a b => commF a b = true) → Run l ps d → Run l ps.reverse d
 | [], l, d, _, _, h => h
 | a :: r, l, d, hw, hc, h => by
   obtain ⟨c1, c2⟩ := List.pairwise_cons.1 hc
   have h1 := run_back r hw c1 h
   obtain ⟨m, h2, h3⟩ := run_append.1 h1
   rw [List.reverse_cons]
   exact run_append.2 ⟨m, run_rev r hw c2 h2, h3⟩
end Go.Proofs.YtecnlfaholmpoaaGreat
namespace Go.Proofs.YtecnlfaholmpoaaGreat
open Go.RowKit
theorem delete_none (l : List Clause) (base : Nat) (v : Value) (w : World) (h : OwnCs w base v l) (hl : l.length ≤ 100000) (hno : ∀ c ∈ l, c.gone = false) :
 Calls Tryz.prog 87 #[v, .func (.func 88) #[] #[]] w fun e w' => ∃ v', e = .returned v' ∧ OwnCs w' base v' (openL l) ∧ w.grownBy w' v.ownBlock := by
 have hix := goneIdx_none hno
 have ho : openL l = l := List.filter_eq_self.2 fun c hc => by simp [hno c hc]
 rw [ho]
 have HO := Lib.hid h; clear h
 go_enter Tryz.func87, Tryz.ntmps87
 go_wp2_with fail
 refine (index_gone l base _ _ HO.out hl).mono ?_
 rintro e w1 ⟨rfl, hb1⟩
 rw [hix]
 go_wp2_with fail
 go_ret
 exact ⟨_, rfl, HO.out.below hb1, below_grown hb1⟩
theorem cdelete_any (l : List Clause) (base : Nat) (v : Value) (w : World) (h : OwnCs w base v l) (hl : l.length ≤ 100000) :
 Calls Tryz.prog 87 #[v, .func (.func 88) #[] #[]] w fun e w' => ∃ v', e = .returned v' ∧ OwnCs w' base v' (openL l) ∧ w.grownBy w' v.ownBlock := by
 cases hf : l.findIdx? (fun c => c.gone) with
 | none =>
   exact delete_none l base v w h hl (List.findIdx?_eq_none_iff.1 hf)
 | some k =>
   obtain ⟨hk, hg, hno⟩ := List.findIdx?_eq_some_iff_getElem.1 hf
   obtain ⟨b, cap, rest, rfl, hb, hlt, hrow, hlc, hcm, hcl⟩ := h.row (by rintro rfl; simp at hk)
   exact delete_some l b cap k rest l[k] base w h hrow hlc hcm hcl hl (List.getElem?_eq_getElem hk) hg (fun c hc => by
    obtain ⟨j, hj, rfl⟩ := List.mem_iff_getElem.1 hc
    simp only [List.length_take] at hj
    have := hno j (by omega)
    simpa using this)
end Go.Proofs.YtecnlfaholmpoaaGreat
set_option maxRecDepth 20000
set_option maxHeartbeats 2000000
namespace Go.Proofs.YtecnlfaholmpoaaGreat
open Go.RowKit
theorem openc_any (l : List Item) (cs : List Clause) (A B : Option Addr) (c d : Nat) (w : World) (hr : RdI w A l) (hl : l.length ≤ 1000000) (hsh : ∀ x ∈ l, x.Short) (hs : RdC w B cs) (hm : cs.length ≤ 64) :
 Calls Tryz.prog 47 #[.agg #[.slice A l.length c], .slice B cs.length d] w fun e w' => (if walkB l then ∃ v, e = .returned (.tuple #[v, .int .i64 0]) ∧ OwnCs w' (w.heap.size + 1) v (openL cs) else e = .returned (.tuple #[.slice none 0 0, .int .i64 1])) ∧ Below w.heap.size w w' := by
 have HR := Lib.hid hr; clear hr
 have HSH := Lib.hid hsh; clear hsh
 obtain ⟨r, hwr⟩ : ∃ r, walkB l = r := ⟨_, rfl⟩
 rw [hwr]
 have HW := Lib.hid hwr; clear hwr
 have HS := Lib.hid hs; clear hs
 have ho : (openL cs).length ≤ 64 := Nat.le_trans (List.length_filter_le _ _) hm
 go_enter Tryz.func47, Tryz.ntmps47
 go_wp2_with fail
 refine (clone_clas cs B d _ (HS.out.below ((Below.refl _ _).alloc (Nat.le_refl _) _)) (by omega)).mono ?_
 rintro e w1 ⟨v, rfl, hv, hb1⟩
 have HV := Lib.hid hv; clear hv
 have k1 : w1.cell? ⟨w.heap.size, 0, none⟩ = some (.slice A l.length c) := step_box hb1
 have hb01 : Below w.heap.size w w1 := ((Below.refl _ _).alloc (Nat.le_refl _) _).trans (hb1.mono (by simp))
 have hsz1 : w.heap.size + 1 ≤ w1.heap.size := by have := hb1.size; simpa using this
 clear hb1
 go_wp2_with fail
 refine (cdelete_any cs _ v _ HV.out (by omega)).mono ?_
 rintro e w2 ⟨v2, rfl, hv2, hg2⟩
 have hge : ∀ k, v.ownBlock = some k → w.heap.size + 1 ≤ k := fun k hk => by have := HV.out.ge k hk; simpa using this
 have hb02 : Below w.heap.size w w2 := hb01.grown hg2 (by omega) (fun k hk => by have := hge k hk; omega)
 have e : w2.heap[w.heap.size]? = w1.heap[w.heap.size]? := hg2.block _ (by omega) (fun e => by have := hge _ e.symm; omega)
 have k2 : w2.cell? ⟨w.heap.size, 0, none⟩ = some (.slice A l.length c) := by
  rw [← k1]
  unfold World.cell?
  rw [e]
 have HV2 := Lib.hid hv2; clear hv2
 clear k1 e hg2 hge
 obtain ⟨A2, c2, rfl, _, _, _⟩ := HV2.out.reads
 have h64 : ¬ (64 : Int) < ((openL cs).length : Int) := by omega
 go_wp2_with fail
 refine (valid_any l A c _ (HR.out.below hb02) (by omega) HSH.out).mono ?_
 rintro e w3 ⟨rfl, hb3⟩
 rw [HW.out]
 have hb03 : Below w.heap.size w w3 := hb02.trans (hb3.mono hb02.size)
 have hv3 := HV2.out.below hb3
 have HV3 := Lib.hid hv3; clear hv3 hb3
 cases r with
 | false =>
   go_wp2_with fail
   go_ret2
   exact ⟨by simp, hb03⟩
 | true =>
   go_wp2_with fail
   go_ret2
   refine ⟨?_, hb03⟩
   exact ⟨_, rfl, by simpa using HV3.out⟩
end Go.Proofs.YtecnlfaholmpoaaGreat
namespace Go.Proofs.YtecnlfaholmpoaaGreat
open Go.RowKit
structure ResSt (w : World) (cb base : Nat) (r : List Item) (A : Option Addr) (c : Nat) (tk : List Patch) (tv : Value) (lf : List Stamp) (lv : Value) : Prop where
 box : w.heap[cb]? = some (.cells #[.slice A r.length c] 24 (0, 0))
 rd : RdI w A r
 cap : r.length ≤ c
 own : OwnPs w base tv tk
 left : OwnSs w base lv lf
 ne : ∀ b, tv.ownBlock = some b → lv.ownBlock ≠ some b
 ra : r ≠ [] → ∀ b o, A = some ⟨b, o, none⟩ → b ≠ cb ∧ tv.ownBlock ≠ some b ∧ lv.ownBlock ≠ some b
 cbb : cb < base
theorem rdi_lt {w : World} {A : Option Addr} {r : List Item} (h : RdI w A r) (hr : r ≠ []) {b o : Nat} (hA : A = some ⟨b, o, none⟩) : b < w.heap.size := by
 obtain ⟨b', o', hA', hlt, _⟩ := h hr
 rw [hA] at hA'
 cases hA'
 exact hlt
theorem ResSt.keep {w w' : World} {cb base : Nat} {r : List Item} {A : Option Addr} {c : Nat} {tk : List Patch} {tv : Value} {lf : List Stamp} {lv : Value} (h : ResSt w cb base r A c tk tv lf lv) (hb : Below w.heap.size w w') : ResSt w' cb base r A c tk tv lf lv :=
 ⟨(hb.block _ (lt_of_heap h.box)).trans h.box, h.rd.below hb, h.cap, h.own.below hb, h.left.below hb, h.ne, h.ra, h.cbb⟩
theorem ResSt.leave {w w1 : World} {cb base : Nat} {r : List Item} {A : Option Addr} {c : Nat} {tk : List Patch} {tv : Value} {lf lf' : List Stamp} {lv lv' : Value} (h : ResSt w cb base r A c tk tv lf lv)
 (ho : OwnSs w1 base lv' lf') (hg : w.grownBy w1 lv.ownBlock) (hat : lv'.ownBlock = lv.ownBlock ∨ lv'.ownBlock = some w.heap.size) : ResSt w1 cb base r A c tk tv lf' lv' := by
 have hcb := h.cbb
 refine ⟨(hg.block _ (lt_of_heap h.box) (fun e => by have := h.left.ge cb e.symm; omega)).trans h.box, ?_, h.cap, h.own.keep fun b hb => hg.block b (h.own.lt b hb) (fun e => h.ne b hb e.symm), ho, fun b hb => ?_, fun hr b o hA => ?_, hcb⟩
 · by_cases hr : r = []
   · subst hr; intro h0; exact absurd rfl h0
   · exact Sl.keep h.rd hg.size (fun b o hA hlt => hg.block b hlt (fun e => (h.ra hr b o hA).2.2 e.symm))
 · rcases hat with e | e
   · rw [e]; exact h.ne b hb
   · rw [e]; have := h.own.lt b hb; intro e2; simp only [Option.some.injEq] at e2; omega
 · obtain ⟨h1, h2, h3⟩ := h.ra hr b o hA
   refine ⟨h1, h2, ?_⟩
   rcases hat with e | e
   · rw [e]; exact h3
   · rw [e]; have := rdi_lt h.rd hr hA; intro e2; simp only [Option.some.injEq] at e2; omega
theorem ResSt.take {w w1 : World} {cb base : Nat} {r : List Item} {A : Option Addr} {c : Nat} {tk tk' : List Patch} {tv tv' : Value} {lf : List Stamp} {lv : Value} (h : ResSt w cb base r A c tk tv lf lv)
 (ho : OwnPs w1 base tv' tk') (hg : w.grownBy w1 tv.ownBlock) (hat : tv'.ownBlock = tv.ownBlock ∨ tv'.ownBlock = some w.heap.size) : ResSt w1 cb base r A c tk' tv' lf lv := by
 have hcb := h.cbb
 refine ⟨(hg.block _ (lt_of_heap h.box) (fun e => by have := h.own.ge cb e.symm; omega)).trans h.box, ?_, h.cap, ho, h.left.keep fun b hb => hg.block b (h.left.lt b hb) (fun e => h.ne b e.symm hb), fun b hb => ?_, fun hr b o hA => ?_, hcb⟩
 · by_cases hr : r = []
   · subst hr; intro h0; exact absurd rfl h0
   · exact Sl.keep h.rd hg.size (fun b o hA hlt => hg.block b hlt (fun e => (h.ra hr b o hA).2.1 e.symm))
 · rcases hat with e | e
   · exact h.ne b (e ▸ hb)
   · rw [e] at hb; cases hb; intro e2; have := h.left.lt _ e2; omega
 · obtain ⟨h1, h2, h3⟩ := h.ra hr b o hA
   refine ⟨h1, ?_, h3⟩
   rcases hat with e | e
   · rw [e]; exact h2
   · rw [e]; have := rdi_lt h.rd hr hA; intro e2; simp only [Option.some.injEq] at e2; omega
theorem ResSt.store {w : World} {cb base : Nat} {r r' : List Item} {A A' : Option Addr} {c c' : Nat} {tk : List Patch} {tv : Value} {lf : List Stamp} {lv : Value} (h : ResSt w cb base r A c tk tv lf lv)
 (hr' : RdI w A' r') (hc' : r'.length ≤ c') (ha : r' ≠ [] → ∀ b o, A' = some ⟨b, o, none⟩ → b ≠ cb ∧ tv.ownBlock ≠ some b ∧ lv.ownBlock ≠ some b) : ResSt (w.setCell ⟨cb, 0, none⟩ (.slice A' r'.length c')) cb base r' A' c' tk tv lf lv := by
 have hcb := h.cbb
 have hk : ∀ k, k ≠ cb → (w.setCell ⟨cb, 0, none⟩ (.slice A' r'.length c')).heap[k]? = w.heap[k]? := fun k hk => Below.heap_setCell w ⟨cb, 0, none⟩ _ k hk
 refine ⟨row_setCell h.box, ?_, hc', h.own.keep fun b hb => hk b (by have := h.own.ge b hb; omega), h.left.keep fun b hb => hk b (by have := h.left.ge b hb; omega), h.ne, ha, hcb⟩
 by_cases hr : r' = []
 · subst hr; intro h0; exact absurd rfl h0
 · exact Sl.keep hr' (by simp) (fun b o hA hlt => hk b (ha hr b o hA).1)
def Box2 (x : Clause) (b1 b2 : Nat) (v : Value) (X : World) : Prop := X.blk b1 = some (.cells (claCs x) 51 (0, 0)) ∧ X.blk b2 = some (.cells #[v] 24 (0, 0))
structure ResU (w : World) (cb base : Nat) (r : List Item) (A : Option Addr) (c : Nat) (r' : List Item) (A' : Option Addr) (c' : Nat) (tk : List Patch) (tv : Value) (lf : List Stamp) (lv : Value) (x : Clause) (b1 b2 : Nat) : Prop where
 st : ResSt w cb base r A c tk tv lf lv
 rd : RdI w A' r'
 cap : r'.length ≤ c'
 ra : r' ≠ [] → ∀ b o, A' = some ⟨b, o, none⟩ → b ≠ cb ∧ tv.ownBlock ≠ some b ∧ lv.ownBlock ≠ some b
 bx : Box2 x b1 b2 (.slice A' r'.length c') w
 n1 : b1 ≠ cb ∧ b2 ≠ cb
 n2 : tv.ownBlock ≠ some b1 ∧ tv.ownBlock ≠ some b2
structure ResV (w : World) (cb base : Nat) (r' : List Item) (A' : Option Addr) (c' : Nat) (tk : List Patch) (tv : Value) (lf : List Stamp) (lv : Value) (x : Clause) (b1 b2 : Nat) : Prop where
 st : ResSt w cb base r' A' c' tk tv lf lv
 bx : Box2 x b1 b2 (.slice A' r'.length c') w
 n1 : b1 ≠ cb ∧ b2 ≠ cb
 n2 : tv.ownBlock ≠ some b1 ∧ tv.ownBlock ≠ some b2
section
variable {w w1 : World} {cb base : Nat} {r r' : List Item} {A A' : Option Addr} {c c' : Nat} {tk tk' : List Patch} {tv tv' : Value} {lf : List Stamp} {lv : Value} {x : Clause} {b1 b2 : Nat}
theorem Box2.keep {v : Value} (h : Box2 x b1 b2 v w) (h1 : w1.heap[b1]? = w.heap[b1]?) (h2 : w1.heap[b2]? = w.heap[b2]?) : Box2 x b1 b2 v w1 := ⟨h1.trans h.1, h2.trans h.2⟩
theorem ResU.keep (h : ResU w cb base r A c r' A' c' tk tv lf lv x b1 b2) (hb : Below w.heap.size w w1) : ResU w1 cb base r A c r' A' c' tk tv lf lv x b1 b2 :=
 ⟨h.st.keep hb, h.rd.below hb, h.cap, h.ra, h.bx.keep (hb.block _ (lt_of_heap h.bx.1)) (hb.block _ (lt_of_heap h.bx.2)), h.n1, h.n2⟩
theorem ResV.keep (h : ResV w cb base r' A' c' tk tv lf lv x b1 b2) (hb : Below w.heap.size w w1) : ResV w1 cb base r' A' c' tk tv lf lv x b1 b2 :=
 ⟨h.st.keep hb, h.bx.keep (hb.block _ (lt_of_heap h.bx.1)) (hb.block _ (lt_of_heap h.bx.2)), h.n1, h.n2⟩
theorem at_ne {b : Nat} (hat : tv'.ownBlock = tv.ownBlock ∨ tv'.ownBlock = some w.heap.size) (h : tv.ownBlock ≠ some b) (hb : b < w.heap.size) : tv'.ownBlock ≠ some b := by
 rcases hat with e | e
 · rw [e]; exact h
 · rw [e]; intro e2; simp only [Option.some.injEq] at e2; omega
theorem ResU.take (h : ResU w cb base r A c r' A' c' tk tv lf lv x b1 b2) (ho : OwnPs w1 base tv' tk') (hg : w.grownBy w1 tv.ownBlock) (hat : tv'.ownBlock = tv.ownBlock ∨ tv'.ownBlock = some w.heap.size) : ResU w1 cb base r A c r' A' c' tk' tv' lf lv x b1 b2 := by
 have l1 := lt_of_heap h.bx.1
 have l2 := lt_of_heap h.bx.2
 refine ⟨h.st.take ho hg hat, ?_, h.cap, fun hr b o hA => ?_, h.bx.keep (hg.block _ l1 (fun e => h.n2.1 e.symm)) (hg.block _ l2 (fun e => h.n2.2 e.symm)), h.n1, at_ne hat h.n2.1 l1, at_ne hat h.n2.2 l2⟩
 · by_cases hr : r' = []
   · subst hr; intro h0; exact absurd rfl h0
   · exact Sl.keep h.rd hg.size (fun b o hA hlt => hg.block b hlt (fun e => (h.ra hr b o hA).2.1 e.symm))
 · obtain ⟨h1, h2, h3⟩ := h.ra hr b o hA
   exact ⟨h1, at_ne hat h2 (rdi_lt h.rd hr hA), h3⟩
theorem ResV.take (h : ResV w cb base r' A' c' tk tv lf lv x b1 b2) (ho : OwnPs w1 base tv' tk') (hg : w.grownBy w1 tv.ownBlock) (hat : tv'.ownBlock = tv.ownBlock ∨ tv'.ownBlock = some w.heap.size) : ResV w1 cb base r' A' c' tk' tv' lf lv x b1 b2 := by
 have l1 := lt_of_heap h.bx.1
 have l2 := lt_of_heap h.bx.2
 exact ⟨h.st.take ho hg hat, h.bx.keep (hg.block _ l1 (fun e => h.n2.1 e.symm)) (hg.block _ l2 (fun e => h.n2.2 e.symm)), h.n1, at_ne hat h.n2.1 l1, at_ne hat h.n2.2 l2⟩
theorem ResU.store (h : ResU w cb base r A c r' A' c' tk tv lf lv x b1 b2) : ResV (w.setCell ⟨cb, 0, none⟩ (.slice A' r'.length c')) cb base r' A' c' tk tv lf lv x b1 b2 :=
 ⟨h.st.store h.rd h.cap h.ra, h.bx.keep (Below.heap_setCell w ⟨cb, 0, none⟩ _ b1 h.n1.1) (Below.heap_setCell w ⟨cb, 0, none⟩ _ b2 h.n1.2), h.n1, h.n2⟩
end
end Go.Proofs.YtecnlfaholmpoaaGreat
