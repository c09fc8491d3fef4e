/- slices.DeleteFunc at clauses: the row while what is gone is struck. slices.DeleteFunc at clauses: the walk. Join in plain words, a step at a time. conference.Join, where the sort is known. -/
import Derived.Test.YtecnlfaholmpoaaGreatJC27
import Derived.Test.YtecnlfaholmpoaaGreatJC6
import Derived.Test.YtecnlfaholmpoaaGreatJC26
import Derived.Test.YtecnlfaholmpoaaGreatJC29
set_option linter.unusedVariables false
set_option linter.unusedSimpArgs false
namespace Go.Proofs.YtecnlfaholmpoaaGreat
open Go.RowKit
theorem cflat_take (l : List Clause) (i : Nat) : (cflat l).take (i * 20) = cflat (l.take i) := by
 induction l generalizing i with
 | nil => simp [cflat]
 | cons x r ih =>
   cases i with
   | zero => simp [cflat]
   | succ i =>
     have hx : x.cells.length = 20 := rfl
     rw [List.take_succ_cons]
     unfold cflat at *
     rw [List.flatMap_cons, List.flatMap_cons, List.take_append, hx, show (i + 1) * 20 - 20 = i * 20 by omega, ih, List.take_of_length_le (by rw [hx]; omega)]
theorem cflat_drop (l : List Clause) (i : Nat) : (cflat l).drop (i * 20) = cflat (l.drop i) := by
 induction l generalizing i with
 | nil => simp [cflat]
 | cons x r ih =>
   cases i with
   | zero => simp [cflat]
   | succ i =>
     have hx : x.cells.length = 20 := rfl
     rw [List.drop_succ_cons]
     unfold cflat at *
     rw [List.flatMap_cons, List.drop_append, hx, show (i + 1) * 20 - 20 = i * 20 by omega, ih, List.drop_of_length_le (by rw [hx]; omega), List.nil_append]
def RowIs (w : World) (b : Nat) (R : List Clause) (rest : List Value) : Prop := w.heap[b]? = some (.cells (cflat R ++ rest).toArray 51 (0, 0))
theorem put_row {R : List Clause} {rest : List Value} {i : Nat} {x : Clause} (hi : i < R.length) : (cflat R ++ rest).take (i * 20) ++ x.cells ++ (cflat R ++ rest).drop (i * 20 + x.cells.length) = cflat (R.set i x) ++ rest := by
 have hl : (cflat R).length = R.length * 20 := cflat_len R
 have hx : x.cells.length = 20 := rfl
 rw [List.take_append_of_le_length (by rw [hl]; omega), List.drop_append_of_le_length (by rw [hl, hx]; omega), hx, show i * 20 + 20 = (i + 1) * 20 by omega, cflat_take, cflat_drop, List.set_eq_take_append_cons_drop, if_pos hi, cflat_app]
 have e : cflat (x :: R.drop (i + 1)) = x.cells ++ cflat (R.drop (i + 1)) := rfl
 rw [e]
 simp
theorem OwnCs.row {w : World} {base : Nat} {v : Value} {l : List Clause} (h : OwnCs w base v l) (hl : l ≠ []) : ∃ b cap rest, v = .slice (some ⟨b, 0, none⟩) l.length cap ∧ base ≤ b ∧ b < w.heap.size ∧ RowIs w b l rest ∧ l.length ≤ cap ∧ cap ≤ maxLen ∧ (cflat l ++ rest).length = cap * 20 := by
 rcases h.2 with ⟨_, h0⟩ | ⟨g, cap, cur, rfl, r2, r3, r4, r5, r6, r7⟩
 · exact absurd (List.length_eq_zero_iff.1 h0) hl
 · refine ⟨g, cap, cur.toList.drop (l.length * 20), rfl, r2, lt_of_heap r3, ?_, r4, r5, ?_⟩
   · unfold RowIs
     rw [← r7, List.take_append_drop]
     exact r3
   · rw [← r7, List.take_append_drop]
     simpa using r6
theorem RowIs.load {w : World} {b k : Nat} {R : List Clause} {rest : List Value} {x : Clause} (h : RowIs w b R rest) (hx : R[k]? = some x) : rowLoad w 51 b (k * 20) 20 (w.blk b) = .ok x.agg w := by
 have hk := (List.getElem?_eq_some_iff.1 hx).1
 have hl : (cflat R).length = R.length * 20 := cflat_len R
 have e : w.blk b = some (.cells (cflat R ++ rest).toArray 51 (0, 0)) := h
 have hsz : k * 20 + 20 ≤ (cflat R ++ rest).toArray.size := by simp; rw [hl]; omega
 rw [e, rowLoad_part _ _ _ _ _ _ _ _ hsz]
 congr 2
 apply Array.ext_getElem?
 intro j
 rw [Array.getElem?_extract]
 by_cases hj : j < 20
 · have hl2 : (claCs x)[j]? = x.cells[j]? := by rw [List.getElem?_toArray]
   obtain ⟨v, hv⟩ : ∃ v, x.cells[j]? = some v := ⟨_, List.getElem?_eq_getElem (show j < x.cells.length from hj)⟩
   have h1 := cfl_get R k x j v hx hv
   have hlt := (List.getElem?_eq_some_iff.1 h1).1
   rw [if_pos (by omega), hl2, hv, List.getElem?_toArray, List.getElem?_append_left hlt]
   exact h1
 · rw [if_neg (by omega)]
   exact (Array.getElem?_eq_none (show (claCs x).size ≤ j by simpa using hj)).symm
end Go.Proofs.YtecnlfaholmpoaaGreat
set_option maxRecDepth 20000
set_option maxHeartbeats 4000000
namespace Go.Proofs.YtecnlfaholmpoaaGreat
open Go.RowKit
abbrev openL (l : List Clause) : List Clause := l.filter fun c => !c.gone
def DelRel (l : List Clause) (rest : List Value) (b : Nat) (w wr : World) (j i : Nat) (R : List Clause) : Prop :=
 j ≤ l.length ∧ R.length = l.length ∧ i < j ∧ R.take i = openL (l.take j) ∧ R.drop j = l.drop j ∧ RowIs wr b R rest ∧ w.grownBy wr (some b)
theorem RowIs.keep {w w' : World} {b : Nat} {R : List Clause} {rest : List Value} (h : RowIs w b R rest) (hk : w'.heap[b]? = w.heap[b]?) : RowIs w' b R rest := hk.trans h
theorem DelRel.skip {l : List Clause} {rest : List Value} {b : Nat} {w wr w' : World} {j i : Nat} {R : List Clause} {y : Clause} (h : DelRel l rest b w wr j i R) (hy : l[j]? = some y) (hg : y.gone = true) (hw : w'.heap[b]? = wr.heap[b]?) (hgr : w.grownBy w' (some b)) : DelRel l rest b w w' (j + 1) i R := by
 obtain ⟨h1, h2, h3, h4, h5, h6, h7⟩ := h
 have hj := (List.getElem?_eq_some_iff.1 hy).1
 refine ⟨hj, h2, by omega, ?_, ?_, h6.keep hw, hgr⟩
 · rw [h4, List.take_succ_eq_append_getElem hj, (List.getElem?_eq_some_iff.1 hy).2]
   simp [openL, hg]
 · have := congrArg (List.drop 1) h5
   rwa [List.drop_drop, List.drop_drop] at this
theorem DelRel.put {l : List Clause} {rest : List Value} {b : Nat} {w wr w' : World} {j i : Nat} {R : List Clause} {y : Clause} (h : DelRel l rest b w wr j i R) (hy : l[j]? = some y) (hg : y.gone = false) (hw : RowIs w' b (R.set i y) rest) (hgr : w.grownBy w' (some b)) : DelRel l rest b w w' (j + 1) (i + 1) (R.set i y) := by
 obtain ⟨h1, h2, h3, h4, h5, h6, h7⟩ := h
 have hj := (List.getElem?_eq_some_iff.1 hy).1
 refine ⟨hj, by simpa using h2, by omega, ?_, ?_, hw, hgr⟩
 · rw [List.take_succ_eq_append_getElem (show i < (R.set i y).length by simp; omega), List.take_succ_eq_append_getElem hj, (List.getElem?_eq_some_iff.1 hy).2]
   rw [List.take_set_of_le (Nat.le_refl _), h4]
   simp [openL, hg]
 · have := congrArg (List.drop 1) h5
   rw [List.drop_drop, List.drop_drop] at this
   rw [List.drop_set_of_lt (by omega)]
   exact this
theorem DelRel.at {l : List Clause} {rest : List Value} {b : Nat} {w wr : World} {j i : Nat} {R : List Clause} {y : Clause} (h : DelRel l rest b w wr j i R) (hy : l[j]? = some y) : R[j]? = some y := by
 obtain ⟨h1, h2, h3, h4, h5, h6, h7⟩ := h
 have := congrArg (fun L : List Clause => L[0]?) h5
 simp only [List.getElem?_drop, Nat.add_zero] at this
 rw [this]
 exact hy
theorem zero_clas : ∀ (n : Nat), ∀ v ∈ (Builtin.zeroCells zeroCl.agg.cells n).toList, v.oneCell' = true := by
 intro n v hv
 simp only [Builtin.zeroCells, Array.toList_map, List.mem_map] at hv
 obtain ⟨k, _, rfl⟩ := hv
 have hk : k % 20 < 20 := Nat.mod_lt _ (by omega)
 show (zeroCl.agg.cells[k % 20]!).oneCell' = true
 have h : ∀ r, r < 20 → (zeroCl.agg.cells[r]!).oneCell' = true := by decide
 exact h _ hk
theorem grown_below {w wr w2 : World} {b : Nat} (h : w.grownBy wr (some b)) (hb : Below wr.heap.size wr w2) : w.grownBy w2 (some b) :=
 ⟨hb.os.trans h.os, hb.tape.trans h.tape, hb.output.trans h.output, Nat.le_trans h.size hb.size, fun i hi hne => (hb.block i (Nat.lt_of_lt_of_le hi h.size)).trans (h.block i hi hne)⟩
theorem grown_setRow {w wr : World} {b : Nat} {C : Array Value} (h : w.grownBy wr (some b)) : w.grownBy (wr.setRow b C) (some b) :=
 ⟨h.os, h.tape, h.output, by simpa [World.setRow] using h.size, fun i hi hne => (setRow_other wr b i C (fun e => hne (by rw [e]))).trans (h.block i hi hne)⟩
theorem delete_some (l : List Clause) (b cap k : Nat) (rest : List Value) (x : Clause) (base : Nat) (w : World) (h : OwnCs w base (.slice (some ⟨b, 0, none⟩) l.length cap) l) (hrow : RowIs w b l rest) (hlc : l.length ≤ cap) (hcm : cap ≤ maxLen) (hcl : (cflat l ++ rest).length = cap * 20) (hl : l.length ≤ 100000)
 (hx : l[k]? = some x) (hg : x.gone = true) (hno : ∀ c ∈ l.take k, c.gone = false) :
 Calls Tryz.prog 87 #[.slice (some ⟨b, 0, none⟩) l.length cap, .func (.func 88) #[] #[]] w fun e w' => ∃ v', e = .returned v' ∧ OwnCs w' base v' (openL l) ∧ w.grownBy w' (some b) := by
 have hk := (List.getElem?_eq_some_iff.1 hx).1
 have hix := goneIdx_at hx hg hno
 have eg : ∀ args w, (callFunc 88 args).run Tryz.prog w = .ok (.enter 88 args) w := enters_of Tryz.func88 (by kernel_rfl) rfl
 have hst : DelRel l rest b w w (k + 1) k l := by
  refine ⟨hk, rfl, by omega, ?_, rfl, hrow, ⟨rfl, rfl, rfl, Nat.le_refl _, fun _ _ _ => rfl⟩⟩
  rw [List.take_succ_eq_append_getElem hk, (List.getElem?_eq_some_iff.1 hx).2]
  unfold openL
  rw [List.filter_append, List.filter_eq_self.2 (fun c hc => by simp [hno c hc])]
  simp [hg]
 have HX := Lib.hid hx; clear hx hg hno
 have HST := Lib.hid hst; clear hst
 have HROW := Lib.hid hrow; clear hrow
 have HO := Lib.hid h; clear h
 have hm1 : ¬ (k : Int) = -1 := by omega
 go_enter Tryz.func87, Tryz.ntmps87
 go_wp2_with fail
 refine (index_gone l base _ _ HO.out hl).mono ?_
 rintro e w1 ⟨rfl, hb1⟩
 rw [hix]
 have hst1 : DelRel l rest b w w1 (k + 1) k l := by
  obtain ⟨a1, a2, a3, a4, a5, a6, a7⟩ := HST.out
  exact ⟨a1, a2, a3, a4, a5, a6.keep (hb1.block b (lt_of_heap a6)), below_grown hb1⟩
 have HS1 := Lib.hid hst1; clear hst1
 go_wp2_with fail
 go_loopw [5, 6] (fun vi vj wr => ∃ (j i : Nat) (R : List Clause), vi = .int .i64 i ∧ vj = .int .i64 j ∧ DelRel l rest b w wr j i R) (fun _ vj _ => l.length - (intOf vj).toNat)
 case atStart => exact ⟨k + 1, k, l, rfl, by go_num, HS1.out⟩
 case round =>
  obtain ⟨j, i, R, rfl, rfl, hrel⟩ := hrel
  have hij := hrel.2.2.1
  have hjl := hrel.1
  have hRl := hrel.2.1
  have HR := Lib.hid hrel; clear hrel
  by_cases hlt : j < l.length
  · obtain ⟨y, hy⟩ := get_of_lt hlt
    have hi1 : (j : Int) < l.length := by omega
    have hi0 : (0 : Int) ≤ j := by omega
    have hi2 : (i : Int) < l.length := by omega
    have hi3 : (0 : Int) ≤ i := by omega
    have hq := HR.out.2.2.2.2.2.1.load (HR.out.at hy)
    have HY := Lib.hid hy; clear hy
    obtain ⟨yi, ya, yp, yg⟩ := y
    cases yg with
    | true =>
      go_wp2_with fail
      refine (cgone_any ⟨yi, ya, yp, true⟩ _).mono ?_
      rintro e w2 ⟨rfl, hb2⟩
      have hbw : Below wr.heap.size wr w2 := ((Below.refl _ _).alloc (Nat.le_refl _) _).trans (hb2.mono (by simp))
      clear hb2
      have HBW := Lib.hid hbw; clear hbw hq
      go_wp2_with fail
      refine ⟨⟨_, _, _, _, _, _, _, _, _, _, _, _, _, _, _, _, _, _, _, _, _, _, _, ⟨j + 1, i, R, ?_, ?_, HR.out.skip HY.out rfl (HBW.out.block b (lt_of_heap HR.out.2.2.2.2.2.1)) (grown_below HR.out.2.2.2.2.2.2 HBW.out)⟩, rfl⟩, by simp [intOf]; omega⟩
      · rfl
      · go_num
    | false =>
      go_wp2_with fail
      refine (cgone_any ⟨yi, ya, yp, false⟩ _).mono ?_
      rintro e w2 ⟨rfl, hb2⟩
      have hbw : Below wr.heap.size wr w2 := ((Below.refl _ _).alloc (Nat.le_refl _) _).trans (hb2.mono (by simp))
      have k7 : w2.blk wr.heap.size = some (.cells (claCs ⟨yi, ya, yp, false⟩) 51 (0, 0)) := rkeepk hb2 (heap_alloc_new _ _)
      clear hb2
      have hrw : RowIs w2 b R rest := HR.out.2.2.2.2.2.1.keep (hbw.block b (lt_of_heap HR.out.2.2.2.2.2.1))
      have HRW := Lib.hid hrw; clear hrw
      have HBW := Lib.hid hbw; clear hbw hq
      go_wp2_with (refine wpList_store_row rfl 51 (.tmp 33) (.tmp 32) rfl b (i * 20) (Clause.cells ⟨yi, ya, yp, false⟩) (cflat R ++ rest) 51 rfl rfl HRW.out (by rw [List.length_append, cflat_len]; show i * 20 + 20 ≤ _; omega) size_cla (claCs_one ⟨yi, ya, yp, false⟩) ?_)
      generalize hW : World.setRow w2 b _ = w4
      have hw4 : w4 = w2.setRow b (cflat (R.set i ⟨yi, ya, yp, false⟩) ++ rest).toArray := by
       rw [← hW, ← put_row (R := R) (rest := rest) (i := i) (x := ⟨yi, ya, yp, false⟩) (by omega)]
       simp
      clear hW
      have hnew : RowIs w4 b (R.set i ⟨yi, ya, yp, false⟩) rest := by
       rw [hw4]
       exact setRow_heap _ _ _ _ _ _ HRW.out
      have hgn : w.grownBy w4 (some b) := by rw [hw4]; exact grown_setRow (grown_below HR.out.2.2.2.2.2.2 HBW.out)
      clear hw4
      refine ⟨⟨_, _, _, _, _, _, _, _, _, _, _, _, _, _, _, _, _, _, _, _, _, _, _, ⟨j + 1, i + 1, R.set i ⟨yi, ya, yp, false⟩, ?_, ?_, HR.out.put HY.out rfl hnew hgn⟩, rfl⟩, by simp [intOf]; omega⟩
      · go_num
      · go_num
  · have hi1 : ¬ (j : Int) < l.length := by omega
    have hjn : j = l.length := by omega
    have hclr := run_clear_row wr 25 0 51 20 b (i * 20) (l.length - i) (cap - i) (cflat R ++ rest) 51 zeroCl.agg Tryz.underlying25 (by kernel_rfl) rfl HR.out.2.2.2.2.2.1 (by omega) (by rw [List.length_append, cflat_len]; omega) (zero_clas _)
    have hil : i ≤ l.length := by omega
    have hRc : (cflat R ++ rest).length = cap * 20 := by rw [← hcl, List.length_append, List.length_append, cflat_len, cflat_len, hRl]
    have hT : (cflat R ++ rest).take (i * 20) = cflat (openL l) := by
     rw [List.take_append_of_le_length (by rw [cflat_len]; omega), cflat_take, HR.out.2.2.2.1, hjn, List.take_length]
    have hoi : (openL l).length = i := by
     have := congrArg List.length HR.out.2.2.2.1
     rw [hjn, List.take_length, List.length_take] at this
     omega
    rw [hT, List.append_assoc] at hclr
    obtain ⟨Z, hZ⟩ : ∃ Z, Z = (Builtin.zeroCells zeroCl.agg.cells (l.length - i)).toList ++ (cflat R ++ rest).drop (i * 20 + (Builtin.zeroCells zeroCl.agg.cells (l.length - i)).toList.length) := ⟨_, rfl⟩
    rw [← hZ] at hclr
    have hZl : (cflat (openL l) ++ Z).length = cap * 20 := by
     have h20 : zeroCl.agg.cells.size = 20 := rfl
     rw [List.length_append, cflat_len, hoi, hZ, List.length_append, List.length_drop, zeroCells_len, h20, hRc]
     omega
    have hbase : base ≤ b := HO.out.ge b rfl
    have HZ := Lib.hid hZ; clear hZ hT hRc
    go_wp2_with fail
    go_ret
    refine ⟨_, rfl, ?_, grown_setRow HR.out.2.2.2.2.2.2⟩
    have hrow2 : (wr.setRow b (cflat (openL l) ++ Z).toArray).heap[b]? = some (.cells (cflat (openL l) ++ Z).toArray 51 (0, 0)) := setRow_heap _ _ _ _ _ _ HR.out.2.2.2.2.2.1
    refine ⟨by rw [cflat_len], .inr ⟨b, cap, (cflat (openL l) ++ Z).toArray, by rw [hoi]; rfl, hbase, hrow2, by omega, hcm, by simpa using hZl, ?_⟩⟩
    show (cflat (openL l) ++ Z).take _ = _
    rw [List.take_append_of_le_length (by rw [cflat_len]; omega), List.take_of_length_le (by rw [cflat_len]; omega)]
end Go.Proofs.YtecnlfaholmpoaaGreat
namespace Go.Proofs.YtecnlfaholmpoaaGreat
theorem putAll_append : ∀ (l1 l2 pg : List Clause), putAll pg (l1 ++ l2) = if (putAll pg l1).2 = 0 then putAll (putAll pg l1).1 l2 else putAll pg l1
 | [], l2, pg => by simp [putAll]
 | c :: r, l2, pg => by
   rw [List.cons_append, putAll, putAll]
   split
   · exact putAll_append r l2 _
   · rename_i h
     simp [h]
theorem putL_len (pg : List Clause) (c : Clause) : (putP pg c).length ≤ pg.length + 1 := by
 unfold putP
 split
 · split
   · simp [pset]
   · simp
 · omega
theorem putAll_len : ∀ (l pg : List Clause), (putAll pg l).1.length ≤ pg.length + l.length
 | [], pg => by simp [putAll]
 | c :: r, pg => by
   rw [putAll]
   split
   · have := putAll_len r (putP pg c)
     have := putL_len pg c
     simp only [List.length_cons]
     omega
   · simp
theorem put_take {S pg : List Clause} {k : Nat} {x : Clause} (h : putAll [] (S.take k) = (pg, 0)) (hx : S[k]? = some x) : (putE pg x = 0 → putAll [] (S.take (k + 1)) = (putP pg x, 0)) ∧ (putE pg x ≠ 0 → (putAll [] S).2 = putE pg x) := by
 obtain ⟨hk, rfl⟩ := List.getElem?_eq_some_iff.1 hx
 have e0 : S.take (k + 1) = S.take k ++ [S[k]] := List.take_succ_eq_append_getElem hk
 refine ⟨fun h0 => ?_, fun h0 => ?_⟩
 · rw [e0, putAll_append, h]
   simp [putAll, h0]
 · have e1 : S = S.take k ++ S[k] :: S.drop (k + 1) := by rw [← List.drop_eq_getElem_cons hk, List.take_append_drop]
   have e2 := congrArg (fun l => (putAll [] l).2) e1
   simp only [putAll_append, h] at e2
   rw [e2]
   simp [putAll, h0]
theorem join_bad {a b : List Clause} (h : seatsB a = false ∨ seatsB b = false) : joinF a b = ([], 1) := by
 unfold joinF
 rcases h with h | h <;> simp [h]
theorem join_ok {a b : List Clause} (ha : seatsB a = true) (hb : seatsB b = true) : joinF a b = if (putAll [] (joinS a b)).2 = 0 then (listP (putAll [] (joinS a b)).1, 0) else ([], (putAll [] (joinS a b)).2) := by
 unfold joinF
 simp [ha, hb]
theorem put_page_ok {S pg : List Clause} (h : putAll [] S = (pg, 0)) : PageOk pg := by
 have := putAll_ok S [] [] PutsOk.nil (by rw [h])
 rw [h] at this
 exact this.ok
end Go.Proofs.YtecnlfaholmpoaaGreat
set_option maxRecDepth 20000
set_option maxHeartbeats 4000000
namespace Go.Proofs.YtecnlfaholmpoaaGreat
open Go.RowKit
def SortsN (n : Nat) : Prop := ∀ (l : List Clause) (base : Nat) (v : Value) (w : World), l.length = n → OwnCs w base v l →
 Calls Tryz.prog 39 #[v, .func (.func 40) #[] #[]] w fun e w' => e = .returned (.tuple #[]) ∧ OwnCs w' base v (sortB sooner l) ∧ w.grownBy w' v.ownBlock
theorem sorts_few {n : Nat} (h : n < 20) : SortsN n := fun l base v w hl ho => sort_own l (by omega) base v w ho
theorem moved_true (l : List Clause) (A : Option Addr) (c : Nat) (d : Int) (w : World) (hr : RdC w A l) (hl : l.length ≤ 1000) (hd : 0 ≤ d ∧ d ≤ 100) (h : seatsB l = true) :
 Calls Tryz.prog 38 #[.slice A l.length c, .int .i64 d] w fun e w' => ∃ v, e = .returned (.tuple #[v, .bool true]) ∧ OwnCs w' w.heap.size v (l.map (mv d)) ∧ Below w.heap.size w w' := by
 refine (moved_any l A c d w hr hl hd).mono ?_
 rintro e w' ⟨⟨_, v, h1, h2⟩ | ⟨h1, _⟩, hb⟩
 · exact ⟨v, h1, h2, hb⟩
 · rw [h] at h1; cases h1
theorem moved_false (l : List Clause) (A : Option Addr) (c : Nat) (d : Int) (w : World) (hr : RdC w A l) (hl : l.length ≤ 1000) (hd : 0 ≤ d ∧ d ≤ 100) (h : seatsB l = false) :
 Calls Tryz.prog 38 #[.slice A l.length c, .int .i64 d] w fun e w' => e = .returned (.tuple #[.slice none 0 0, .bool false]) ∧ Below w.heap.size w w' := by
 refine (moved_any l A c d w hr hl hd).mono ?_
 rintro e w' ⟨⟨h1, _⟩ | ⟨_, h1⟩, hb⟩
 · rw [h] at h1; cases h1
 · exact ⟨h1, hb⟩
def Joins (a b : List Clause) (A B : Option Addr) (c d : Nat) (w : World) : Prop :=
 Calls Tryz.prog 12 #[.slice A a.length c, .slice B b.length d] w fun e w' => ∃ v, e = .returned (.tuple #[v, .int .i64 (joinF a b).2]) ∧ OwnCs w' w.heap.size v (joinF a b).1 ∧ Below w.heap.size w w'
theorem join_f1 (a b : List Clause) (A B : Option Addr) (c d : Nat) (w : World) (ha : RdC w A a) (hb : RdC w B b) (hl : a.length ≤ 1000) (hm : b.length ≤ 1000) (h1 : seatsB a = false) : Joins a b A B c d w := by
 unfold Joins
 have hE := join_bad (b := b) (Or.inl h1)
 have HE := Lib.hid hE; clear hE
 have HA := Lib.hid ha; clear ha
 have HB := Lib.hid hb; clear hb
 have H1 := Lib.hid h1; clear h1
 go_enter Tryz.func12, Tryz.ntmps12
 go_wp2_with fail
 refine (moved_false a A c 0 w HA.out hl (by omega) H1.out).mono ?_
 rintro e w1 ⟨rfl, hb1⟩
 have HB1 := Lib.hid hb1; clear hb1
 go_wp2_with fail
 cases hsb : seatsB b with
 | true =>
   have HSB := Lib.hid hsb; clear hsb
   refine (moved_true b B d 100 w1 (HB.out.below HB1.out) hm (by omega) HSB.out).mono ?_
   rintro e w2 ⟨v2, rfl, _, hb2⟩
   have HB2 := Lib.hid (chain2 HB1.out hb2); clear hb2
   go_wp2_with fail
   go_ret2
   exact ⟨.slice none 0 0, by rw [HE.out]; rfl, by rw [HE.out]; exact OwnCs.nil _ _, HB2.out⟩
 | false =>
   have HSB := Lib.hid hsb; clear hsb
   refine (moved_false b B d 100 w1 (HB.out.below HB1.out) hm (by omega) HSB.out).mono ?_
   rintro e w2 ⟨rfl, hb2⟩
   have HB2 := Lib.hid (chain2 HB1.out hb2); clear hb2
   go_wp2_with fail
   go_ret2
   exact ⟨.slice none 0 0, by rw [HE.out]; rfl, by rw [HE.out]; exact OwnCs.nil _ _, HB2.out⟩
theorem join_f2 (a b : List Clause) (A B : Option Addr) (c d : Nat) (w : World) (ha : RdC w A a) (hb : RdC w B b) (hl : a.length ≤ 1000) (hm : b.length ≤ 1000) (h1 : seatsB a = true) (h2 : seatsB b = false) : Joins a b A B c d w := by
 unfold Joins
 have hE := join_bad (a := a) (Or.inr h2)
 have HE := Lib.hid hE; clear hE
 have HA := Lib.hid ha; clear ha
 have HB := Lib.hid hb; clear hb
 have H1 := Lib.hid h1; clear h1
 have H2 := Lib.hid h2; clear h2
 go_enter Tryz.func12, Tryz.ntmps12
 go_wp2_with fail
 refine (moved_true a A c 0 w HA.out hl (by omega) H1.out).mono ?_
 rintro e w1 ⟨v1, rfl, _, hb1⟩
 have HB1 := Lib.hid hb1; clear hb1
 go_wp2_with fail
 refine (moved_false b B d 100 w1 (HB.out.below HB1.out) hm (by omega) H2.out).mono ?_
 rintro e w2 ⟨rfl, hb2⟩
 have HB2 := Lib.hid (chain2 HB1.out hb2); clear hb2
 go_wp2_with fail
 go_ret2
 exact ⟨.slice none 0 0, by rw [HE.out]; rfl, by rw [HE.out]; exact OwnCs.nil _ _, HB2.out⟩
theorem join_t (a b : List Clause) (A B : Option Addr) (c d : Nat) (w : World) (hso : SortsN (a.length + b.length)) (ha : RdC w A a) (hb : RdC w B b) (hl : a.length ≤ 1000) (hm : b.length ≤ 1000) (h1 : seatsB a = true) (h2 : seatsB b = true) : Joins a b A B c d w := by
 unfold Joins
 have hE := join_ok h1 h2
 obtain ⟨S, hS⟩ : ∃ S, S = joinS a b := ⟨_, rfl⟩
 rw [← hS] at hE
 have hSl : S.length = a.length + b.length := by
  rw [hS]
  unfold joinS
  rw [(sortB_perm _ _).length_eq]
  simp
 have hSm : S = sortB sooner (a.map (mv 0) ++ b.map (mv 100)) := by
  rw [hS]
  unfold joinS
  congr 2
  · conv => lhs; rw [← List.map_id a]
    exact List.map_congr_left fun x _ => (mv_zero x).symm
  · exact List.map_congr_left fun x _ => (mv_moved x).symm
 clear hS
 have HSL := Lib.hid hSl; clear hSl
 have HSM := Lib.hid hSm; clear hSm
 have HE := Lib.hid hE; clear hE
 have HA := Lib.hid ha; clear ha
 have HB := Lib.hid hb; clear hb
 have H1 := Lib.hid h1; clear h1
 have H2 := Lib.hid h2; clear h2
 have HSO := Lib.hid hso; clear hso
 go_enter Tryz.func12, Tryz.ntmps12
 go_wp2_with fail
 refine (moved_true a A c 0 w HA.out hl (by omega) H1.out).mono ?_
 rintro e w1 ⟨v1, rfl, hv1, hb1⟩
 have HB1 := Lib.hid hb1; clear hb1
 have HV1 := Lib.hid hv1; clear hv1
 go_wp2_with fail
 refine (moved_true b B d 100 w1 (HB.out.below HB1.out) hm (by omega) H2.out).mono ?_
 rintro e w2 ⟨v2, rfl, hv2, hb2⟩
 obtain ⟨A2, c2, rfl, _, _, hr2⟩ := hv2.reads
 have HV12 := Lib.hid (HV1.out.below hb2); clear HV1 hv2
 have HB2 := Lib.hid (chain2 HB1.out hb2); clear hb2 HB1
 have HR2 := Lib.hid hr2; clear hr2
 go_wp2_with (at_builtin; refine wpList_append_clas rfl (.tmp 31) (.tmp 32) rfl rfl w.heap.size v1 (a.map (mv 0)) (b.map (mv 100)) A2 b.length c2 (by simp) rfl rfl HV12.out HR2.out (by simp; omega) HB2.out.size ?_; intro v3 w3 ho3 hg3)
 have hso := HSO.out (a.map (mv 0) ++ b.map (mv 100)) w.heap.size v3 w3 (by simp) ho3
 refine hso.mono ?_
 rintro e w4 ⟨rfl, ho4, hg4⟩
 rw [← HSM.out] at ho4
 have hbw3 := HB2.out.grown hg3 HB2.out.size HV12.out.ge
 have hbw4 := hbw3.grown hg4 hbw3.size ho3.ge
 clear hso hbw3 ho3 hg3 hg4
 have HB4 := Lib.hid hbw4; clear hbw4 HB2
 obtain ⟨A4, c4, rfl, hlc4, hcm4, _⟩ := ho4.reads
 have HO4 := Lib.hid ho4; clear ho4 HV12 HR2
 go_wp2_with fail
 refine (new_any w4).mono ?_
 rintro e w5 ⟨rfl, hp5, hm5, hs5, hb5⟩
 have hrow5 := HO4.out.below hb5
 have hge4 := HO4.out.lt
 have HGE4 := Lib.hid hge4; clear hge4
 have hbw5 := chain2 HB4.out hb5
 have HP5 := Lib.hid hp5; clear hp5
 have HM5 := Lib.hid hm5; clear hm5
 have HB5 := Lib.hid hbw5; clear hbw5
 have HO5 := Lib.hid hrow5; clear hrow5 hb5
 have hs4 : w.heap.size ≤ w4.heap.size := HB4.out.size
 have hSl : S.length ≤ 2000 := by have := HSL.out; omega
 go_wp2_with fail
 go_loopw [39] (fun i wr => ∃ (k : Nat) (pg : List Clause), k ≤ S.length ∧ i = .int .i64 k ∧ putAll [] (S.take k) = (pg, 0) ∧ CMap wr w4.heap.size pg ∧ w5.grownBy wr (some w4.heap.size)) (fun i _ => S.length - (intOf i).toNat)
 case atStart => exact ⟨0, [], Nat.zero_le _, rfl, rfl, HM5.out, ⟨rfl, rfl, rfl, Nat.le_refl _, fun _ _ _ => rfl⟩⟩
 case round =>
  obtain ⟨k, pg, hk, rfl, hput, hmap, hgr⟩ := hrel
  have hpl : pg.length ≤ 2000 := by
   have h := putAll_len (S.take k) []
   rw [hput] at h
   simp only [List.length_nil, List.length_take] at h
   omega
  have hsr := hgr.size
  have hbel : Below w.heap.size w wr := HB5.out.grown hgr HB5.out.size (fun b hb => by simp only [Option.some.injEq] at hb; omega)
  have hpc : wr.cell? ⟨w4.heap.size + 1, 0, none⟩ = some (.map (some w4.heap.size)) := by
   rw [← HP5.out]
   have e := hgr.block (w4.heap.size + 1) (by omega) (by simp)
   unfold World.cell?
   rw [e]
  have hrow : OwnCs wr w.heap.size (.slice A4 S.length c4) S := HO5.out.keep fun b hb => hgr.block b (HO5.out.lt b hb) (fun e => by simp only [Option.some.injEq] at e; have := HGE4.out b hb; omega)
  have HBR := Lib.hid hbel; clear hbel
  have HGR := Lib.hid hgr; clear hgr
  have HPUT := Lib.hid hput; clear hput
  by_cases hlt : k < S.length
  · obtain ⟨x, hx⟩ := get_of_lt hlt
    have hi1 : (k : Int) < S.length := by omega
    have hi0 : (0 : Int) ≤ k := by omega
    obtain ⟨g4, rfl⟩ : ∃ g4, A4 = some ⟨g4, 0, none⟩ := by
     rcases hrow.2 with ⟨hv, h0⟩ | ⟨g, cap', cur, hv, r2, _⟩
     · omega
     · simp only [Value.slice.injEq] at hv; exact ⟨g, hv.1⟩
    have hq := hrow.load hx
    obtain ⟨hok, hbad⟩ := put_take HPUT.out hx
    have HOK := Lib.hid hok; clear hok
    have HBAD := Lib.hid hbad; clear hbad
    clear hx hrow
    have hpa : Below wr.heap.size wr (wr.alloc (.cells (claCs x) 51)) := (Below.refl _ _).alloc (Nat.le_refl _) _
    have HPA := Lib.hid hpa; clear hpa
    have hpc2 : (wr.alloc (.cells (claCs x) 51)).cell? ⟨w4.heap.size + 1, 0, none⟩ = some (.map (some w4.heap.size)) := keepw HPA.out hpc
    have hmap2 : CMap (wr.alloc (.cells (claCs x) 51)) w4.heap.size pg := hmap.keep (HPA.out.block _ hmap.lt)
    have HCALL := Lib.hid (cput_any pg x (w4.heap.size + 1) w4.heap.size _ hpc2 (by simp only [World.size_alloc]; omega) hmap2 (by omega)); clear hpc2 hmap2 hpc hmap
    cases he : (putE pg x != 0) with
    | true =>
      have hne : putE pg x ≠ 0 := by simpa using he
      obtain ⟨q, hq1⟩ : ∃ q, q = putE pg x := ⟨_, rfl⟩
      rw [← hq1] at he
      have hres : joinF a b = ([], q) := by
       have h1 := HBAD.out hne
       rw [HE.out, if_neg (by rw [h1]; exact hne), h1, hq1]
      have HRES := Lib.hid hres; clear hres hne
      have HQ1 := Lib.hid hq1; clear hq1
      obtain ⟨xi, xa, xp, xg⟩ := x
      go_wp2_with fail
      refine HCALL.out.mono ?_
      rintro e w6 ⟨rfl, hm6, hg6⟩
      rw [← HQ1.out]
      have hb6 : Below w.heap.size w w6 := (HBR.out.trans (HPA.out.mono HBR.out.size)).grown hg6 (HBR.out.trans (HPA.out.mono HBR.out.size)).size (fun b hb => by simp only [Option.some.injEq] at hb; omega)
      have HB6 := Lib.hid hb6; clear hb6 hm6 hg6
      go_wp2_with fail
      go_ret2
      exact ⟨.slice none 0 0, by rw [HRES.out]; rfl, by rw [HRES.out]; exact OwnCs.nil _ _, HB6.out⟩
    | false =>
      have h0 : putE pg x = 0 := by simpa using he
      have HOK2 := Lib.hid (HOK.out h0)
      have HH0 := Lib.hid h0; clear h0
      obtain ⟨xi, xa, xp, xg⟩ := x
      go_wp2_with fail
      refine HCALL.out.mono ?_
      rintro e w6 ⟨rfl, hm6, hg6⟩
      rw [HH0.out]
      have HM6 := Lib.hid hm6; clear hm6
      have hg56 : w5.grownBy w6 (some w4.heap.size) := (grown_below HGR.out HPA.out).trans hg6
      have HG56 := Lib.hid hg56; clear hg56 hg6
      go_wp2_with fail
      refine ⟨⟨k + 1, _, by omega, by go_num, HOK2.out, HM6.out, HG56.out⟩, by simp [intOf]; omega⟩
  · have hke : k = S.length := by omega
    have hi1 : ¬ (k : Int) < S.length := by omega
    subst hke
    have hput := HPUT.out
    rw [List.take_length] at hput
    have hres : joinF a b = (listP pg, 0) := by rw [HE.out, hput]; simp
    have HRES := Lib.hid hres; clear hres
    have hpage := put_page_ok hput
    have HCALL := Lib.hid (list_any pg hpage (by omega) (w4.heap.size + 1) w4.heap.size wr hpc (by omega) hmap)
    clear hpage hput hpc hmap hrow
    go_wp2_with fail
    refine HCALL.out.mono ?_
    rintro e w6 ⟨v6, rfl, ho6, hb6⟩
    have hb7 := chain2 HBR.out hb6
    have HO6 := Lib.hid (ho6.lower HBR.out.size); clear ho6
    have HB7 := Lib.hid hb7; clear hb7 hb6
    go_wp2_with fail
    go_ret2
    exact ⟨v6, by rw [HRES.out]; rfl, by rw [HRES.out]; exact HO6.out, HB7.out⟩
theorem join_any (a b : List Clause) (A B : Option Addr) (c d : Nat) (w : World) (hso : SortsN (a.length + b.length)) (ha : RdC w A a) (hb : RdC w B b) (hl : a.length ≤ 1000) (hm : b.length ≤ 1000) : Joins a b A B c d w := by
 cases h1 : seatsB a with
 | false => exact join_f1 a b A B c d w ha hb hl hm h1
 | true =>
   cases h2 : seatsB b with
   | false => exact join_f2 a b A B c d w ha hb hl hm h1 h2
   | true => exact join_t a b A B c d w hso ha hb hl hm h1 h2
end Go.Proofs.YtecnlfaholmpoaaGreat
