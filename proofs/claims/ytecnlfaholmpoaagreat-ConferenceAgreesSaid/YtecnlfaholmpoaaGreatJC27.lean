/- The children of a clause, sorted. slices.SortStableFunc at fewer than twenty clauses. slices.SortStableFunc at fewer than twenty clauses: the walk. The children of a clause, sorted: a row that the call owns, nil too. A clause of a row, loaded whole; slices.IndexFunc at the clauses that are gone. 'm[k] = append(m[k], x)': the entry, laid or found, and stored into. The list of a page, a step at a time. -/
import Derived.Test.YtecnlfaholmpoaaGreatJC26
import Derived.Test.YtecnlfaholmpoaaGreatFs
import Derived.Shelf.SlSortCmp.NoneTotal
import Derived.Test.YtecnlfaholmpoaaGreatJC25
import Derived.Test.YtecnlfaholmpoaaGreatJC22
import Derived.Test.YtecnlfaholmpoaaGreatJC13
set_option linter.unusedVariables false
set_option linter.unusedSimpArgs false
set_option maxHeartbeats 1000000
namespace Go.Proofs.YtecnlfaholmpoaaGreat
open Go.RowKit
abbrev PC : Type := { c : Clause // properS c.id = true }
instance : Inhabited PC := ⟨⟨⟨⟨0, 1⟩, noStamp, zeroP, false⟩, by decide⟩⟩
abbrev laterP (x y : PC) : Int := laterI x.1 y.1
theorem later_swo : Go.Sort.SWO (ltOf laterP) := by
 constructor
 · intro x; simp [ltOf, laterI]
 · intro x y z h1 h2
   simp only [ltOf, laterI, decide_eq_true_eq] at *
   split at h1 <;> split at h2 <;> split <;> omega
 · intro x y z h1 h2
   simp only [ltOf, laterI, decide_eq_false_iff_not] at *
   split at h1 <;> split at h2 <;> split <;> omega
theorem pcs_map : ∀ (l : List Clause) (hp : ∀ c ∈ l, properS c.id = true), (l.pmap (fun c h => (⟨c, h⟩ : PC)) hp).map (fun x : PC => x.1) = l
 | [], _ => rfl
 | c :: r, hp => by
   rw [List.pmap_cons, List.map_cons, pcs_map r]
theorem perm_all {α : Type} [Inhabited α] {d d' : Array α} (h : Go.Sort.PermIn 0 d.size d d') : d'.toList.Perm d.toList := by
 have h2 := h.2.2
 have e1 : d.extract 0 d.size = d := by simp
 have e2 : d'.extract 0 d.size = d' := by rw [← h.1]; simp
 rw [e1, e2] at h2
 exact h2
theorem sorted_asc {α : Type} [Inhabited α] {lt : α → α → Bool} {d : Array α} {n : Nat} (hn : n = d.size) (h : Go.Sort.SortedIn lt 0 n d) : d.toList.Pairwise fun a b => lt b a = false := by
 subst hn
 rw [List.pairwise_iff_getElem]
 intro i j hi hj hij
 have := h i j (Nat.zero_le _) hij (by simpa using hj)
 rw [getElem!_pos d i (by simpa using hi), getElem!_pos d j (by simpa using hj)] at this
 simpa using this
theorem sortk_row (l : List Clause) (hp : ∀ c ∈ l, properS c.id = true) (hn : (l.map (·.id)).Nodup) (hl : l.length ≤ 100000) (b cap : Nat) (cur : Array Value) (w : World) (hb : w.heap[b]? = some (.cells cur 51 (0, 0))) (ht : cur.toList.take (l.length * 20) = cflat l) (hs : l.length * 20 ≤ cur.size) :
 Calls Tryz.prog 72 #[.slice (some ⟨b, 0, none⟩) l.length cap, .func (.func 73) #[] #[]] w fun e w' => e = .returned (.tuple #[]) ∧
  ∃ cur', w'.heap[b]? = some (.cells cur' 51 (0, 0)) ∧ cur'.size = cur.size ∧ cur'.toList.take (l.length * 20) = cflat (sortB later l) ∧ w.grownBy w' (some b) := by
 obtain ⟨d, hd⟩ : ∃ d : Array PC, d = (l.pmap (fun c h => (⟨c, h⟩ : PC)) hp).toArray := ⟨_, rfl⟩
 have hdm : d.toList.map (fun x : PC => x.1) = l := by rw [hd]; exact pcs_map l hp
 have hds : d.size = l.length := by rw [← hdm]; simp
 have eg : ∀ args w, (callFunc 73 args).run Tryz.prog w = .ok (.enter 73 args) w := enters_of Tryz.func73 (by kernel_rfl) rfl
 have hH : Go.Sort.HoldsK (fun a : PC => a.1.cells) 20 w b 0 d := holds_row (fun x : PC => x.1) hb (by rw [hds, hdm]; exact ht)
 have hcon := AnyQ.slices_SortFunc Tryz.sfun 20 (fun w => by kernel_rfl) (fun w => by kernel_rfl) (fun a : PC => a.1.cells) (fun _ => rfl) (fun x v hv => claCs_one x.1 v (by simpa using hv)) laterP later_swo 73 #[] b 0 cap d w eg
  (fun m os dk hk x y => later_cmp x.1 y.1 x.2 y.2 _) hH (Array.getElem?_eq_some_iff.1 hb).1 (by omega)
 rw [hds] at hcon
 refine hcon.mono ?_
 rintro e w' ⟨rfl, d', n, os, h1, h2, rfl⟩
 rw [← hds] at h1 h2
 have hd's : d'.size = l.length := h1.1.trans hds
 obtain ⟨cur', c1, c2, c3, c4⟩ := row_after (fun x : PC => x.1) (d' := d') hb (by rw [hd's]; exact hs) n os
 refine ⟨rfl, cur', c1, c2, ?_, c4⟩
 rw [hd's] at c3
 rw [c3]
 congr 1
 have hperm : (d'.toList.map fun x : PC => x.1).Perm l := by
  have := (perm_all h1).map fun x : PC => x.1
  rwa [hdm] at this
 refine asc_unique (lt := later) _ _ (hperm.trans (sortB_perm later l).symm) ?_ (sortB_asc later_asymm later_ntrans l) ?_
 · unfold Asc
   rw [List.pairwise_map]
   refine (sorted_asc h1.1.symm h2).imp fun {a b} h => ?_
   rw [later_iff]
   exact h
 · intro x hx y hy l1 l2
   exact nodup_eq hn (hperm.mem_iff.1 hx) (hperm.mem_iff.1 hy) (later_eq x y l1 l2)
end Go.Proofs.YtecnlfaholmpoaaGreat
namespace Go.Proofs.YtecnlfaholmpoaaGreat
open Go.RowKit
instance : Inhabited Clause := ⟨zeroC⟩
abbrev TC : Type := Clause × Nat
abbrev soonerT (x y : TC) : Int := soonerI x.1 y.1
theorem soonI_swo : Go.Sort.SWO (ltI sooner) := by
 constructor
 · intro x
   unfold ltI sooner
   simp
 · intro x y z h1 h2
   unfold ltI sooner at *
   simp only [Bool.or_eq_true, Bool.and_eq_true, decide_eq_true_eq, Bool.not_eq_true', Bool.or_eq_false_iff, Bool.and_eq_false_iff, decide_eq_false_iff_not] at *
   omega
 · intro x y z h1 h2
   unfold ltI sooner at *
   simp only [Bool.or_eq_false_iff, Bool.and_eq_false_iff, decide_eq_false_iff_not, Bool.not_eq_false', Bool.or_eq_true, Bool.and_eq_true, decide_eq_true_eq] at *
   omega
theorem zip_order (l : List Clause) (p q : Nat) (hpq : p < q) (hq : q < l.zipIdx.toArray.size) : (l.zipIdx.toArray[p]!).2 < (l.zipIdx.toArray[q]!).2 := by
 have hq' : q < l.zipIdx.length := by simpa using hq
 rw [getElem!_pos _ p (by simp at hq' ⊢; omega), getElem!_pos _ q hq]
 simp
 omega
theorem zip_uniq {l : List Clause} {a b : TC} (ha : a ∈ l.zipIdx) (hb : b ∈ l.zipIdx) (h : a.2 = b.2) : a = b := by
 obtain ⟨x, i⟩ := a
 obtain ⟨y, j⟩ := b
 simp only at h
 subst h
 have h1 := (List.mem_zipIdx_iff_getElem?.1 ha)
 have h2 := (List.mem_zipIdx_iff_getElem?.1 hb)
 simp only at h1 h2
 rw [h1] at h2
 cases h2
 rfl
theorem ins_stable (l : List Clause) : (Go.Sort.insertionSort (ltOf soonerT) l.zipIdx.toArray 0 l.zipIdx.toArray.size).toList.map Prod.fst = sortB sooner l := by
 have hR : ∀ x y : TC, x.2 < y.2 → ltOf soonerT y x = ltI sooner y x := fun x y h => by
  have hd : decide (y.2 < x.2) = false := by simp; omega
  unfold ltI
  rw [hd, Bool.and_false, Bool.or_false, sooner_iff]
  rfl
 obtain ⟨h1, h2⟩ := insertionSort_stable (lt := ltOf soonerT) soonI_swo hR l.zipIdx.toArray 0 l.zipIdx.toArray.size (Nat.zero_le _) (Nat.le_refl _) (fun p q _ hpq hq => zip_order l p q hpq hq)
 rw [← sortB_eq l]
 congr 1
 have hperm := perm_all h1
 refine asc_unique (lt := ltI sooner) _ _ (hperm.trans (by simpa using (sortB_perm (ltI sooner) l.zipIdx).symm)) (sorted_asc h1.1.symm h2) (sortB_asc ?_ ?_ _) ?_
 · intro a b h
   exact soonI_swo.asymmA h
 · intro a b c h1 h2
   exact soonI_swo.ntrans _ _ _ h2 h1
 · intro a ha b hb l1 l2
   have ha' : a ∈ l.zipIdx := by simpa using hperm.mem_iff.1 ha
   have hb' : b ∈ l.zipIdx := by simpa using hperm.mem_iff.1 hb
   refine zip_uniq ha' hb' ?_
   unfold ltI sooner at l1 l2
   simp only [Bool.or_eq_false_iff, Bool.and_eq_false_iff, decide_eq_false_iff_not, Bool.not_eq_false', Bool.or_eq_true, Bool.and_eq_true, decide_eq_true_eq] at l1 l2
   omega
end Go.Proofs.YtecnlfaholmpoaaGreat
namespace Go.Proofs.YtecnlfaholmpoaaGreat
open Go.RowKit
def Sorted20 (l l' : List Clause) (b : Nat) (cur : Array Value) (w w' : World) : Prop :=
 ∃ cur', w'.heap[b]? = some (.cells cur' 51 (0, 0)) ∧ cur'.size = cur.size ∧ cur'.toList.take (l.length * 20) = cflat l' ∧ w.grownBy w' (some b)
theorem ins_row (l : List Clause) (hl : l.length ≤ 100000) (b cap : Nat) (cur : Array Value) (w : World) (hb : w.heap[b]? = some (.cells cur 51 (0, 0))) (ht : cur.toList.take (l.length * 20) = cflat l) (hs : l.length * 20 ≤ cur.size) :
 Calls Tryz.prog 114 #[.slice (some ⟨b, 0, none⟩) l.length cap, .int .i64 0, .int .i64 l.length, .func (.func 40) #[] #[]] w fun e w' => e = .returned (.tuple #[]) ∧ Sorted20 l (sortB sooner l) b cur w w' := by
 obtain ⟨d, hd⟩ : ∃ d : Array TC, d = l.zipIdx.toArray := ⟨_, rfl⟩
 have hdm : d.toList.map (fun x : TC => x.1) = l := by rw [hd]; simp
 have hds : d.size = l.length := by rw [hd]; simp
 have eg : ∀ args w, (callFunc 40 args).run Tryz.prog w = .ok (.enter 40 args) w := enters_of Tryz.func40 (by kernel_rfl) rfl
 have hH : Go.Sort.HoldsK (fun a : TC => a.1.cells) 20 w b 0 d := holds_row (fun x : TC => x.1) hb (by rw [hds, hdm]; exact ht)
 have hcon := AnyQ.insertionSortCmpFunc Tryz.sins 20 (fun w => by kernel_rfl) (fun w => by kernel_rfl) (fun a : TC => a.1.cells) (fun _ => rfl) (fun x v hv => claCs_one x.1 v (by simpa using hv)) soonerT 40 #[] b 0 cap 0 d.size d w eg
  (fun m os dk hk x y => sooner_cmp x.1 y.1 _) hH (Array.getElem?_eq_some_iff.1 hb).1 (Nat.zero_le _) (Nat.le_refl _) (by omega)
 have hst := ins_stable l
 rw [← hd] at hst
 rw [hds] at hcon hst
 refine hcon.mono ?_
 rintro e w' ⟨rfl, n, os, rfl⟩
 have hsz : (Go.Sort.insertionSort (ltOf soonerT) d 0 l.length).size = l.length := by
  have := congrArg List.length hst
  rw [List.length_map, (sortB_perm sooner l).length_eq] at this
  simpa using this
 obtain ⟨cur', c1, c2, c3, c4⟩ := row_after (fun x : TC => x.1) (d' := Go.Sort.insertionSort (ltOf soonerT) d 0 l.length) hb (by rw [hsz]; exact hs) n os
 refine ⟨rfl, cur', c1, c2, ?_, c4⟩
 rw [hsz] at c3
 rw [c3]
 congr 1
theorem ins_nil (w : World) (fv : Value) : Calls Tryz.prog 114 #[.slice none 0 0, .int .i64 0, .int .i64 0, fv] w fun e w' => e = .returned (.tuple #[]) ∧ w' = w := by
 go_enter Tryz.func114, Tryz.ntmps114
 go_wp2_with fail
 refine wp_loop_rounds 1 ?_
 rw [rounds_succ]
 go_wp2_with fail
 go_end0
 exact ⟨rfl, rfl⟩
theorem stable_row (l : List Clause) (hl : l.length < 20) (b cap : Nat) (cur : Array Value) (w : World) (hb : w.heap[b]? = some (.cells cur 51 (0, 0))) (ht : cur.toList.take (l.length * 20) = cflat l) (hs : l.length * 20 ≤ cur.size) :
 Calls Tryz.prog 80 #[.slice (some ⟨b, 0, none⟩) l.length cap, .int .i64 l.length, .func (.func 40) #[] #[]] w fun e w' => e = .returned (.tuple #[]) ∧ Sorted20 l (sortB sooner l) b cur w w' := by
 have hcon := Lib.hid (ins_row l (by omega) b cap cur w hb ht hs)
 clear ht hs hb
 have h20 : ¬ (20 : Int) ≤ (l.length : Int) := by omega
 have h21 : ¬ (20 : Int) < (l.length : Int) := by omega
 go_enter Tryz.func80, Tryz.ntmps80
 go_wp2_with fail
 refine wp_loop_rounds 1 ?_
 rw [rounds_succ]
 go_wp2_with fail
 refine hcon.out.mono ?_
 rintro e w' ⟨rfl, hw⟩
 have HW := Lib.hid hw; clear hw
 go_wp2_with fail
 refine wp_loop_rounds 1 ?_
 rw [rounds_succ]
 go_wp2_with fail
 go_end0
 exact ⟨rfl, HW.out⟩
theorem stable_nil80 (w : World) : Calls Tryz.prog 80 #[.slice none 0 0, .int .i64 0, .func (.func 40) #[] #[]] w fun e w' => e = .returned (.tuple #[]) ∧ w' = w := by
 go_enter Tryz.func80, Tryz.ntmps80
 go_wp2_with fail
 refine wp_loop_rounds 1 ?_
 rw [rounds_succ]
 go_wp2_with fail
 refine (ins_nil _ _).mono ?_
 rintro e w' ⟨rfl, rfl⟩
 go_wp2_with fail
 refine wp_loop_rounds 1 ?_
 rw [rounds_succ]
 go_wp2_with fail
 go_end0
 exact ⟨rfl, rfl⟩
theorem sort_nil (w : World) : Calls Tryz.prog 39 #[.slice none 0 0, .func (.func 40) #[] #[]] w fun e w' => e = .returned (.tuple #[]) ∧ w' = w := by
 go_enter Tryz.func39, Tryz.ntmps39
 go_wp2_with fail
 refine (stable_nil80 _).mono ?_
 rintro e w' ⟨rfl, rfl⟩
 go_wp2_with fail
 go_end0
 exact ⟨rfl, rfl⟩
theorem sort_row (l : List Clause) (hl : l.length < 20) (b cap : Nat) (cur : Array Value) (w : World) (hb : w.heap[b]? = some (.cells cur 51 (0, 0))) (ht : cur.toList.take (l.length * 20) = cflat l) (hs : l.length * 20 ≤ cur.size) :
 Calls Tryz.prog 39 #[.slice (some ⟨b, 0, none⟩) l.length cap, .func (.func 40) #[] #[]] w fun e w' => e = .returned (.tuple #[]) ∧ Sorted20 l (sortB sooner l) b cur w w' := by
 have hcon := Lib.hid (stable_row l hl b cap cur w hb ht hs)
 clear ht hs hb
 go_enter Tryz.func39, Tryz.ntmps39
 go_wp2_with fail
 refine hcon.out.mono ?_
 rintro e w' ⟨rfl, hw⟩
 have HW := Lib.hid hw; clear hw
 go_wp2_with fail
 go_end0
 exact ⟨rfl, HW.out⟩
theorem sort_own (l : List Clause) (hl : l.length < 20) (base : Nat) (v : Value) (w : World) (h : OwnCs w base v l) :
 Calls Tryz.prog 39 #[v, .func (.func 40) #[] #[]] w fun e w' => e = .returned (.tuple #[]) ∧ OwnCs w' base v (sortB sooner l) ∧ w.grownBy w' v.ownBlock := by
 have hlen : (sortB sooner l).length = l.length := (sortB_perm sooner l).length_eq
 rcases h.2 with ⟨rfl, h0⟩ | ⟨g, cap, cur, rfl, r2, r3, r4, r5, r6, r7⟩
 · have : l = [] := List.length_eq_zero_iff.1 h0
   subst this
   refine (sort_nil w).mono ?_
   rintro e w' ⟨rfl, rfl⟩
   exact ⟨rfl, OwnCs.nil _ _, ⟨rfl, rfl, rfl, Nat.le_refl _, fun _ _ _ => rfl⟩⟩
 · refine (sort_row l hl g cap cur w r3 r7 (by rw [r6]; exact Nat.mul_le_mul_right _ r4)).mono ?_
   rintro e w' ⟨rfl, cur', c1, c2, c3, c4⟩
   refine ⟨rfl, ?_, c4⟩
   unfold OwnCs
   rw [hlen]
   exact ⟨by rw [cflat_len, hlen], .inr ⟨g, cap, cur', rfl, r2, c1, r4, r5, c2.trans r6, c3⟩⟩
end Go.Proofs.YtecnlfaholmpoaaGreat
namespace Go.Proofs.YtecnlfaholmpoaaGreat
open Go.RowKit
theorem sortk_own (l : List Clause) (hp : ∀ c ∈ l, properS c.id = true) (hn : (l.map (·.id)).Nodup) (hl : l.length ≤ 100000) (base : Nat) (v : Value) (w : World) (h : OwnCs w base v l) :
 Calls Tryz.prog 72 #[v, .func (.func 73) #[] #[]] w fun e w' => e = .returned (.tuple #[]) ∧ OwnCs w' base v (sortB later l) ∧ w.grownBy w' v.ownBlock := by
 have hlen : (sortB later l).length = l.length := (sortB_perm later l).length_eq
 rcases h.2 with ⟨rfl, h0⟩ | ⟨g, cap, cur, rfl, r2, r3, r4, r5, r6, r7⟩
 · have : l = [] := List.length_eq_zero_iff.1 h0
   subst this
   refine (AnyF.slices_SortFunc_none Tryz.sfun none 0 (.func (.func 73) #[] #[]) w).mono ?_
   rintro e w' ⟨rfl, rfl⟩
   exact ⟨rfl, OwnCs.nil _ _, ⟨rfl, rfl, rfl, Nat.le_refl _, fun _ _ _ => rfl⟩⟩
 · refine (sortk_row l hp hn hl g cap cur w r3 r7 (by rw [r6]; exact Nat.mul_le_mul_right _ r4)).mono ?_
   rintro e w' ⟨rfl, cur', c1, c2, c3, c4⟩
   refine ⟨rfl, ?_, c4⟩
   unfold OwnCs
   rw [hlen]
   exact ⟨by rw [cflat_len, hlen], .inr ⟨g, cap, cur', rfl, r2, c1, r4, r5, c2.trans r6, c3⟩⟩
end Go.Proofs.YtecnlfaholmpoaaGreat
set_option maxRecDepth 20000
set_option maxHeartbeats 2000000
namespace Go.Proofs.YtecnlfaholmpoaaGreat
open Go.RowKit
theorem OwnCs.load {w : World} {base b n c k : Nat} {L : List Clause} {x : Clause} (h : OwnCs w base (.slice (some ⟨b, 0, none⟩) n c) L) (hx : L[k]? = some x) : rowLoad w 51 b (k * 20) 20 (w.blk b) = .ok x.agg w := by
 have hk := (List.getElem?_eq_some_iff.1 hx).1
 rcases h.2 with ⟨hv, _⟩ | ⟨g, cap', cur, hg, r2, r3, r4, r5, r6, r7⟩
 · cases hv
 · simp only [Value.slice.injEq, Option.some.injEq, Addr.mk.injEq] at hg
   obtain ⟨⟨rfl, _⟩, _, rfl⟩ := hg
   have hsz : k * 20 + 20 ≤ cur.size := by
    rw [r6]
    have := Nat.mul_le_mul_right 20 (show k + 1 ≤ c by omega)
    omega
   have e : w.blk b = some (.cells cur 51 (0, 0)) := r3
   rw [e, rowLoad_part _ _ _ _ _ _ _ _ hsz]
   congr 2
   apply Array.ext_getElem?
   intro j
   rw [Array.getElem?_extract]
   by_cases hj : j < 20
   · have hl : (claCs x)[j]? = x.cells[j]? := by rw [List.getElem?_toArray]
     obtain ⟨v, hv⟩ : ∃ v, x.cells[j]? = some v := ⟨_, List.getElem?_eq_getElem (show j < x.cells.length from hj)⟩
     have h1 := cfl_get L k x j v hx hv
     rw [← r7, List.getElem?_take] at h1
     split at h1
     · rw [if_pos (by omega), hl, hv, ← Array.getElem?_toList]
       exact h1
     · cases h1
   · rw [if_neg (by omega)]
     exact (Array.getElem?_eq_none (show (claCs x).size ≤ j by simpa using hj)).symm
theorem cgone_any (c : Clause) (w : World) : Calls Tryz.prog 88 #[c.agg] w fun e w' => e = .returned (.bool c.gone) ∧ Below w.heap.size w w' := by
 go_enter Tryz.func88, Tryz.ntmps88
 go_wp2_with fail
 go_ret
 exact ⟨rfl, (Below.refl _ _).alloc (Nat.le_refl _) _⟩
def goneIdx (l : List Clause) : Int := idx (l.findIdx? fun c => c.gone)
theorem goneIdx_at {l : List Clause} {k : Nat} {x : Clause} (hx : l[k]? = some x) (hg : x.gone = true) (hno : ∀ c ∈ l.take k, c.gone = false) : goneIdx l = k := by
 have hk := (List.getElem?_eq_some_iff.1 hx).1
 have e : l.findIdx? (fun c => c.gone) = some k := by
  rw [List.findIdx?_eq_some_iff_getElem]
  refine ⟨hk, by rw [(List.getElem?_eq_some_iff.1 hx).2]; exact hg, fun j hj => ?_⟩
  have := hno l[j] (List.mem_iff_getElem.2 ⟨j, by simp; omega, by simp⟩)
  simp [this]
 unfold goneIdx
 rw [e]
 rfl
theorem goneIdx_none {l : List Clause} (hno : ∀ c ∈ l, c.gone = false) : goneIdx l = -1 := by
 have e : l.findIdx? (fun c => c.gone) = none := by
  rw [List.findIdx?_eq_none_iff]
  exact hno
 unfold goneIdx
 rw [e]
 rfl
theorem index_gone (l : List Clause) (base : Nat) (v : Value) (w : World) (h : OwnCs w base v l) (hl : l.length ≤ 100000) :
 Calls Tryz.prog 118 #[v, .func (.func 88) #[] #[]] w fun e w' => e = .returned (.int .i64 (goneIdx l)) ∧ Below w.heap.size w w' := by
 obtain ⟨A, c, rfl, hlc, hcm, _⟩ := h.reads
 have HO := Lib.hid h; clear h
 have eg : ∀ args w, (callFunc 88 args).run Tryz.prog w = .ok (.enter 88 args) w := enters_of Tryz.func88 (by kernel_rfl) rfl
 go_enter Tryz.func118, Tryz.ntmps118
 go_wp2_with fail
 go_loopw [8] (fun i wr => ∃ k : Nat, k ≤ l.length ∧ i = .int .i64 k ∧ (∀ c ∈ l.take k, c.gone = false) ∧ Below w.heap.size w wr) (fun i _ => l.length - (intOf i).toNat)
 case atStart => exact ⟨0, Nat.zero_le _, rfl, by simp, Below.refl _ _⟩
 case round =>
  obtain ⟨k, hk, rfl, hno, hb⟩ := hrel
  have HN := Lib.hid hno; clear hno
  have HB := Lib.hid hb; clear hb
  by_cases hlt : k < l.length
  · obtain ⟨x, hx⟩ := get_of_lt hlt
    have hi1 : (k : Int) < l.length := by omega
    have hi0 : (0 : Int) ≤ k := by omega
    obtain ⟨b, rfl⟩ : ∃ b, A = some ⟨b, 0, none⟩ := by
     rcases HO.out.2 with ⟨hv, h0⟩ | ⟨g, cap', cur, hv, r2, _⟩
     · omega
     · simp only [Value.slice.injEq] at hv; exact ⟨g, hv.1⟩
    have hq := (HO.out.below HB.out).load hx
    have HX := Lib.hid hx; clear hx
    obtain ⟨xi, xa, xp, xg⟩ := x
    cases xg with
    | true =>
      go_wp2_with fail
      refine (cgone_any _ _).mono ?_
      rintro e w1 ⟨rfl, hb1⟩
      go_wp2_with fail
      go_ret
      exact ⟨by rw [goneIdx_at HX.out rfl HN.out]; rfl, HB.out.trans (hb1.mono HB.out.size)⟩
    | false =>
      go_wp2_with fail
      refine (cgone_any _ _).mono ?_
      rintro e w1 ⟨rfl, hb1⟩
      go_wp2_with fail
      refine ⟨⟨k + 1, by omega, by go_num, ?_, HB.out.trans (hb1.mono HB.out.size)⟩, by simp [intOf]; omega⟩
      intro y hy
      rw [List.take_succ_eq_append_getElem hlt, List.mem_append] at hy
      rcases hy with hy | hy
      · exact HN.out y hy
      · rw [(List.getElem?_eq_some_iff.1 HX.out).2] at hy
        obtain rfl := List.mem_singleton.1 hy
        rfl
  · have hke : k = l.length := by omega
    have hi1 : ¬ (k : Int) < l.length := by omega
    go_wp2_with fail
    go_ret
    subst hke
    exact ⟨by rw [goneIdx_none (by simpa using HN.out)]; rfl, HB.out⟩
end Go.Proofs.YtecnlfaholmpoaaGreat
namespace Go.Proofs.YtecnlfaholmpoaaGreat
open Go.ChangeMaps (setBlock modify_eq_set)
open Go.MapKept (Stamped stamped_iff stamped_push stamped_modify stamped_empty)
open Go.Maps (Keyed)
theorem find_born {l : List MapEntry} (hn : (l.map (·.born)).Nodup) {j : Nat} {e0 : MapEntry} (h : l[j]? = some e0) : l.findIdx? (fun e => ((e.born : Nat) : Int) == ((e0.born : Nat) : Int)) = some j := by
 induction l generalizing j with
 | nil => simp at h
 | cons a r ih =>
   simp only [List.map_cons, List.nodup_cons] at hn
   cases j with
   | zero =>
     obtain rfl : a = e0 := by simpa using h
     simp [List.findIdx?_cons]
   | succ j =>
     have h' : r[j]? = some e0 := by simpa using h
     have hne : a.born ≠ e0.born := fun e1 => hn.1 (List.mem_map.2 ⟨e0, List.mem_of_getElem? h', e1.symm⟩)
     have hb : (((a.born : Nat) : Int) == ((e0.born : Nat) : Int)) = false := by
      simp only [beq_eq_false_iff_ne, ne_eq, Int.natCast_inj]
      exact hne
     rw [List.findIdx?_cons, hb]
     simp [ih hn.2 h']
variable {P : Program} {k t e : TypeId}
theorem KMap.entry (K : Keyed P k) (ht : P.underlying t = some (.map k e)) {z : Value} (hz : ∀ u : World, (zeroValue e).run P u = .ok z u) {w : World} {b : Nat} {kv : List (Value × Value)} (h : KMap P k w b kv) {key : Value} {l : Lit} (hk : keyOf P k key = some l) :
 ∃ (v0 : Value) (st : Nat) (o1 : Obj), (Instr.mapEntry t (.map (some b)) key).run P w = .ok (.tuple #[v0, .int .i64 st]) (setBlock w b o1) ∧ (setBlock w b o1).heap[b]? = some o1 ∧
  ((key, v0) ∈ kv ∨ ((∀ p ∈ kv, p.1 ≠ key) ∧ v0 = z)) ∧
  ∀ (w2 : World) (val : Value), w2.heap[b]? = some o1 → ∃ o2, (Instr.entryStore t (.map (some b)) (.int .i64 st) val).run P w2 = .ok () (setBlock w2 b o2) ∧
   (∀ u r, kv = u ++ (key, v0) :: r → KMap P k (setBlock w2 b o2) b (u ++ (key, val) :: r)) ∧ ((∀ p ∈ kv, p.1 ≠ key) → KMap P k (setBlock w2 b o2) b (kv ++ [(key, val)])) := by
 have hn := h.nodup
 have hkeys := h.keys
 obtain ⟨es, clock, hb, he, hs⟩ := h.is
 have hst := (stamped_iff es clock).1 hs
 by_cases hm : ∀ p ∈ kv, p.1 ≠ key
 · have h1 := find_miss K (w := w) he hkeys hk hm
   have hm' : ∀ x ∈ es.toList, x.key ≠ key := fun x hx e1 => hm (x.key, x.val) (by rw [← he]; exact List.mem_map.2 ⟨x, hx, rfl⟩) e1
   refine ⟨z, clock, .map (es.push ⟨key, z, clock⟩) (clock + 1), ?_, ChangeMaps.heap_setBlock_same hb _, Or.inr ⟨hm, rfl⟩, fun w2 val hw2 => ⟨.map (es.push ⟨key, val, clock⟩) (clock + 1), ?_, ?_, ?_⟩⟩
   · simp [Instr.mapEntry, run_underlying ht, MapKept.run_getObj_map hb, K.check w false hk, h1, hz, MapKept.run_setObj_map _ hb, Result.andThen, setBlock, goInt]
   · have hidx : (es.push ⟨key, z, clock⟩).findIdx? (fun e => ((e.born : Nat) : Int) == ((clock : Nat) : Int)) = some es.size := by
       have hx := find_born (l := (es.push ⟨key, z, clock⟩).toList) (j := es.size) (e0 := ⟨key, z, clock⟩) (by
        simp only [Array.toList_push, List.map_append, List.map_cons, List.map_nil]
        refine List.nodup_append.2 ⟨hst.2.1, by simp, fun a ha c hc e1 => ?_⟩
        simp only [List.mem_singleton] at hc
        obtain ⟨x, hx, rfl⟩ := List.mem_map.1 ha
        have := hst.1 x hx
        omega) (by simp)
       rw [← hx]
       cases es
       simp
     have hmod : (es.push ⟨key, z, clock⟩).modify es.size (fun e => { e with val := val }) = es.push ⟨key, val, clock⟩ := by
      apply Array.ext'
      rw [Array.toList_modify, modify_eq_set _ _ _ (⟨key, z, clock⟩ : MapEntry) (by simp)]
      simp [List.set_append_right _ _ (Nat.le_refl _), ← Array.length_toList]
     simp [Instr.entryStore, MapKept.run_getObj_map hw2, asInt, asIntOf, hidx, hmod, MapKept.run_setObj_map _ hw2, Result.andThen, setBlock]
   · intro u r e1
     exact absurd rfl (hm (key, z) (by rw [e1]; simp))
   · intro _
     refine ⟨⟨_, _, ChangeMaps.heap_setBlock_same hw2 _, by simp [he], stamped_push hs hm'⟩, fun p hp => ?_⟩
     rcases List.mem_append.1 hp with hp | hp
     · exact hkeys p hp
     · obtain rfl : p = (key, val) := by simpa using hp
       exact ⟨l, hk⟩
 · obtain ⟨p0, hp0, hp1⟩ : ∃ p ∈ kv, p.1 = key := by simpa using hm
   obtain ⟨k0, v0⟩ := p0
   simp only at hp1
   subst hp1
   obtain ⟨j, e0, h1, h2, h3, h4⟩ := find_hit K (w := w) he hkeys hn hk hp0
   have hj : es[j]? = some e0 := by simpa using h2
   have hsame : es.modify j (fun e => { e with key := k0 }) = es := by
    apply Array.ext'
    rw [Array.toList_modify, modify_eq_set _ _ _ _ h2]
    have e1 : ({ e0 with key := k0 } : MapEntry) = e0 := by rw [← h3]
    rw [e1]
    exact List.ext_getElem? fun i => by
     rw [List.getElem?_set]
     split
     · rename_i hij
       subst hij
       split
       · exact h2.symm
       · rename_i hl
         simp at hl
         rw [List.getElem?_eq_none (by simpa using hl)]
     · rfl
   have hjk : kv[j]? = some (k0, v0) := by rw [← he, List.getElem?_map, h2]; simp [h3, h4]
   refine ⟨v0, e0.born, .map es clock, ?_, ChangeMaps.heap_setBlock_same hb _, Or.inl hp0, fun w2 val hw2 => ⟨.map (es.modify j (fun e' => { e' with key := k0, val := val })) clock, ?_, ?_, ?_⟩⟩
   · simp [Instr.mapEntry, run_underlying ht, MapKept.run_getObj_map hb, K.check w false hk, h1, hj, h3, K.stays w hk, hsame, MapKept.run_setObj_map _ hb, Result.andThen, setBlock, goInt]
   · have hidx : es.findIdx? (fun e => ((e.born : Nat) : Int) == ((e0.born : Nat) : Int)) = some j := by
       rw [← find_born hst.2.1 h2]
       cases es
       simp
     have hmod : es.modify j (fun e => { e with val := val }) = es.modify j (fun e' => { e' with key := k0, val := val }) := by
      apply Array.ext'
      rw [Array.toList_modify, Array.toList_modify, modify_eq_set _ _ _ _ h2, modify_eq_set _ _ _ _ h2, ← h3]
     simp [Instr.entryStore, MapKept.run_getObj_map hw2, asInt, asIntOf, hidx, hmod, MapKept.run_setObj_map _ hw2, Result.andThen, setBlock]
   · rintro u r rfl
     have hlist : (es.modify j (fun e' => { e' with key := k0, val := val })).toList = es.toList.set j { e0 with key := k0, val := val } := by rw [Array.toList_modify, modify_eq_set _ _ _ _ h2]
     have hkv : (es.toList.set j { e0 with key := k0, val := val }).map (fun e => (e.key, e.val)) = (u ++ (k0, v0) :: r).set j (k0, val) := by rw [List.map_set, he]
     have hju : j = u.length := by
      rcases Nat.lt_trichotomy j u.length with h5 | h5 | h5
      · exfalso
        rw [List.getElem?_append_left h5] at hjk
        have hu := List.mem_of_getElem? hjk
        rw [List.map_append, List.nodup_append] at hn
        exact hn.2.2 k0 (List.mem_map.2 ⟨_, hu, rfl⟩) k0 (by simp) rfl
      · exact h5
      · exfalso
        rw [List.getElem?_append_right (by omega)] at hjk
        obtain ⟨i, hi⟩ : ∃ i, j - u.length = i + 1 := ⟨j - u.length - 1, by omega⟩
        rw [hi, List.getElem?_cons_succ] at hjk
        have hr := List.mem_of_getElem? hjk
        rw [List.map_append, List.nodup_append, List.map_cons, List.nodup_cons] at hn
        exact hn.2.1.1 (List.mem_map.2 ⟨_, hr, rfl⟩)
     have hset : (u ++ (k0, v0) :: r).set j (k0, val) = u ++ (k0, val) :: r := by
      rw [hju, List.set_append_right _ _ (Nat.le_refl _)]
      simp
     rw [← hset]
     refine ⟨⟨_, _, ChangeMaps.heap_setBlock_same hw2 _, by rw [hlist, hkv], stamped_modify hs _ _ (fun _ _ => rfl) (fun e' _ he' => by rw [hj] at he'; cases he'; exact h3.symm)⟩, fun p hp => ?_⟩
     rcases List.mem_or_eq_of_mem_set hp with hp | rfl
     · exact hkeys p hp
     · exact ⟨l, hk⟩
   · intro hm'
     exact absurd hm' hm
end Go.Proofs.YtecnlfaholmpoaaGreat
namespace Go.Proofs.YtecnlfaholmpoaaGreat
def above (pg : List Clause) (s : Stamp) : Nat := pg.countP fun c => decide (s.count < c.id.count)
theorem above_le (pg : List Clause) (s : Stamp) : above pg s ≤ pg.length := List.countP_le_length
theorem kid_count {pg : List Clause} (h : PageOk pg) {s : Stamp} {c : Clause} (hc : c ∈ kids pg s) : s.count < c.id.count := by
 obtain ⟨h1, h2⟩ := kids_mem.1 hc
 have := (h.count h1).1
 rw [h2] at this
 exact this
theorem above_kid {pg : List Clause} (h : PageOk pg) {s : Stamp} {c : Clause} (hc : c ∈ kids pg s) : above pg c.id < above pg s := by
 have h1 := kid_count h hc
 have hm := (kids_mem.1 hc).1
 obtain ⟨u, v, rfl⟩ := List.append_of_mem hm
 have key : ∀ l : List Clause, above l c.id ≤ above l s := fun l => List.countP_mono_left fun x _ hx => by
  simp only [decide_eq_true_eq] at hx ⊢
  omega
 have e : ∀ t, above (u ++ c :: v) t = above u t + above v t + (if t.count < c.id.count then 1 else 0) := fun t => by
  unfold above
  rw [List.countP_append, List.countP_cons]
  by_cases ht : t.count < c.id.count <;> simp [ht] <;> omega
 rw [e, e, if_neg (by omega), if_pos h1]
 have := key u
 have := key v
 omega
theorem kids_none {pg : List Clause} (h : PageOk pg) {s : Stamp} (h0 : above pg s = 0) : kids pg s = [] := by
 cases hk : kids pg s with
 | nil => rfl
 | cons c r =>
   have := above_kid h (s := s) (c := c) (by rw [hk]; simp)
   omega
theorem listF_step {pg : List Clause} (h : PageOk pg) {s : Stamp} {n : Nat} (hn : above pg s ≤ n) : listF pg n s = (kids pg s).flatMap fun c => c :: listF pg (n - 1) c.id := by
 cases n with
 | zero => rw [kids_none h (by omega)]; rfl
 | succ n => rfl
theorem kids_sort {pg l : List Clause} (hn : (pg.map (·.id)).Nodup) {s : Stamp} (h : l.Perm (pg.filter fun c => decide (c.after = s))) : sortB later l = kids pg s := by
 unfold kids
 refine asc_unique (lt := later) _ _ ?_ (sortB_asc later_asymm later_ntrans _) (sortB_asc later_asymm later_ntrans _) ?_
 · exact (sortB_perm _ _).trans (h.trans (sortB_perm _ _).symm)
 · intro a ha b hb h1 h2
   have ha' := (List.mem_filter.1 (h.mem_iff.1 ((sortB_perm _ _).mem_iff.1 ha))).1
   have hb' := (List.mem_filter.1 (h.mem_iff.1 ((sortB_perm _ _).mem_iff.1 hb))).1
   exact nodup_eq hn ha' hb' (later_eq a b h1 h2)
theorem kids_perm_filter (pg : List Clause) (s : Stamp) : (kids pg s).Perm (pg.filter fun c => decide (c.after = s)) := sortB_perm _ _
theorem listF_stab {pg : List Clause} (h : PageOk pg) : ∀ (n : Nat) (s : Stamp), above pg s ≤ n → listF pg (n + 1) s = listF pg n s
 | 0, s, h0 => by
   rw [listF_step h (n := 0 + 1) (by omega), listF_step h h0, kids_none h (by omega)]
 | n + 1, s, hn => by
   show (kids pg s).flatMap (fun c => c :: listF pg (n + 1) c.id) = (kids pg s).flatMap (fun c => c :: listF pg n c.id)
   rw [List.flatMap_def, List.flatMap_def]
   refine congrArg List.flatten (List.map_congr_left fun c hc => ?_)
   rw [listF_stab h n c.id (by have := above_kid h hc; omega)]
theorem listP_top {pg : List Clause} (h : PageOk pg) : listF pg (pg.length + 1) noStamp = listP pg := listF_stab h _ _ (above_le _ _)
theorem rest_perm {L : Stamp → List Clause} {pg l l' : List Clause} {c : Clause} (h : ∀ s, (L s ++ l.filter fun c => decide (c.after = s)).Perm (pg.filter fun c => decide (c.after = s))) (hl : l.Perm (c :: l')) (s : Stamp) :
 ((if s = c.after then L c.after ++ [c] else L s) ++ l'.filter fun c => decide (c.after = s)).Perm (pg.filter fun c => decide (c.after = s)) := by
 refine List.Perm.trans ?_ (h s)
 have h1 := hl.filter fun x => decide (x.after = s)
 rw [List.filter_cons] at h1
 split
 · rename_i e
   subst e
   simp only [decide_true, if_true] at h1
   rw [List.append_assoc]
   exact (List.Perm.append_left _ h1).symm
 · rename_i e
   rw [if_neg (by simpa using fun e1 => e e1.symm)] at h1
   exact (List.Perm.append_left _ h1).symm
end Go.Proofs.YtecnlfaholmpoaaGreat
