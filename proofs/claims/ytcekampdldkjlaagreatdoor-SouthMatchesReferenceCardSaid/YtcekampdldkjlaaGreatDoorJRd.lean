/- The reference's reader in memory: fault, fail, sees, is, must. The reference's reader: names and numbers. The reference's reader: name. The reference's reader: number, one. -/
import Derived.Test.YtcekampdldkjlaaGreatDoorUDefs
import Derived.Test.YtcekampdldkjlaaGreatDoorNGrew
import Derived.Test.YtcekampdldkjlaaGreatDoorSIs
import Derived.BigQuiet
import Derived.Deep.CutRange
import Derived.StillTailTactics
import Derived.Deep.RegionHeld3
import Derived.Deep.QuietTactic
import Derived.IntWalk
set_option linter.unusedVariables false
set_option linter.unusedSimpArgs false
namespace Go.Proofs.YtcekampdldkjlaaGreatDoor
open Go.RowKit
structure RR (w : World) (p fin : Nat) (ts : List Tok) (s : Rs) : Prop where
  is : ∃ A c, w.heap[p]? = some (.cells #[.slice A ts.length c, .int .i64 (s.i : Nat), .int .i64 (fin : Nat), .int .i64 (s.e : Nat), .int .i64 s.a] 48 (0, 0)) ∧ RdT w A ts ∧ (∀ b o, A = some ⟨b, o, none⟩ → b < p) ∧ ts.length ≤ c
  le : s.i ≤ ts.length
  few : ts.length ≤ 5000
theorem RR.lt {w : World} {p fin : Nat} {ts : List Tok} {s : Rs} (h : RR w p fin ts s) : p < w.heap.size := by obtain ⟨A, c, hh, _⟩ := h.is; exact lt_of_heap' hh
theorem RR.keep {w w' : World} {p fin : Nat} {ts : List Tok} {s : Rs} (h : RR w p fin ts s) (hs : w.heap.size ≤ w'.heap.size) (hk : ∀ b, b ≤ p → w'.heap[b]? = w.heap[b]?) : RR w' p fin ts s := by
  obtain ⟨A, c, hh, hr, hn, h1⟩ := h.is
  exact ⟨⟨A, c, (hk p (Nat.le_refl _)).trans hh, Sl.keep hr hs (fun b o hA _ => hk b (Nat.le_of_lt (hn b o hA))), hn, h1⟩, h.le, h.few⟩
theorem RR.below {w w' : World} {p fin : Nat} {ts : List Tok} {s : Rs} (h : RR w p fin ts s) (hb : Below w.heap.size w w') : RR w' p fin ts s :=
  h.keep hb.size (fun b hb' => hb.block b (Nat.lt_of_le_of_lt hb' h.lt))
/- the reader's block is written -/
theorem RR.set {w w' : World} {p fin : Nat} {ts : List Tok} {s s' : Rs} (h : RR w p fin ts s) (hl : s'.i ≤ ts.length) {A : Option Addr} {c : Nat}
    (hh : w'.heap[p]? = some (.cells #[.slice A ts.length c, .int .i64 (s'.i : Nat), .int .i64 (fin : Nat), .int .i64 (s'.e : Nat), .int .i64 s'.a] 48 (0, 0))) (hr : RdT w A ts) (hn : ∀ b o, A = some ⟨b, o, none⟩ → b < p) (h1 : ts.length ≤ c) (he : Eff p w w') : RR w' p fin ts s' :=
  ⟨⟨A, c, hh, Sl.keep hr he.size (fun b o hA hlt => he.block b hlt (Nat.ne_of_lt (hn b o hA))), hn, h1⟩, hl, h.few⟩
theorem flt_le {s : Rs} {n : Nat} (e : Nat) (a : Int) (h : s.i ≤ n) : (s.flt e a).i ≤ n := by unfold Rs.flt; split <;> exact h
theorem tok_of {ts : List Tok} {i : Nat} {t : Tok} (h : ts[i]? = some t) : i < ts.length := (List.getElem?_eq_some_iff.1 h).1
theorem none_of {ts : List Tok} {i : Nat} (h : ts[i]? = none) (hl : i ≤ ts.length) : i = ts.length := by
  have := List.getElem?_eq_none_iff.1 h
  omega
theorem tok_cells {w : World} {A : Option Addr} {ts : List Tok} {i : Nat} {t : Tok} (h : RdT w A ts) (hx : ts[i]? = some t) : ∃ b o, A = some ⟨b, o, none⟩ ∧ b < w.heap.size ∧ w.cell? ⟨b, o + i * 4, none⟩ = some (.int .i64 t.kind) ∧ w.cell? ⟨b, o + i * 4 + 1, none⟩ = some (vs t.text) ∧ w.cell? ⟨b, o + i * 4 + 2, none⟩ = some (.int .i64 t.n) ∧ w.cell? ⟨b, o + i * 4 + 3, none⟩ = some (.int .i64 t.pos) := by
  obtain ⟨b, o, hA, hb, hc⟩ := h (by rintro rfl; simp at hx)
  exact ⟨b, o, hA, hb, hc _ _ hx 0 _ rfl, hc _ _ hx 1 _ rfl, hc _ _ hx 2 _ rfl, hc _ _ hx 3 _ rfl⟩
theorem sees_lt {ts : List Tok} {s : Rs} {u : List UInt8} (h : seesA ts s u = true) : s.i + 1 ≤ ts.length := by
  unfold seesA at h
  cases hx : ts[s.i]? with
  | none => simp [hx] at h
  | some t => have := tok_of hx; omega
theorem sees_e {ts : List Tok} {s : Rs} {u : List UInt8} (h : seesA ts s u = true) : s.e = 0 := by
  unfold seesA at h
  simp only [Bool.and_eq_true, beq_iff_eq] at h
  exact h.1
/- fault -/
set_option maxRecDepth 20000 in
set_option maxHeartbeats 400000 in
theorem fault_any (e : Nat) (a : Int) (p fin : Nat) (ts : List Tok) (s : Rs) (w : World) (hp : RR w p fin ts s) :
    Calls Tryz.prog 38 #[.pointer (some ⟨p, 0, none⟩), .int .i64 e, .int .i64 a] w fun r w' => r = .returned (.tuple #[]) ∧ RR w' p fin ts (s.flt e a) ∧ Eff p w w' := by
  obtain ⟨A, c, hh, hr, hn, h1⟩ := hp.is
  obtain ⟨i, es, av⟩ := s
  have HP := Lib.hid hp
  have HH := Lib.hid hh
  have HR := Lib.hid hr
  have c3 := cell_of_blk (o := 3) hh rfl
  have f3 := frozen_of_blk (o := 3) hh
  have f4 := frozen_of_blk (o := 4) hh
  have c4 := cell_of_blk (o := 4) hh rfl
  have hlt := lt_of_heap' hh
  by_cases h0 : es = 0
  · subst h0
    have HF : Hid (Rs.flt ⟨i, 0, av⟩ e a = ⟨i, e, a⟩) := Lib.hid (by unfold Rs.flt; rw [if_pos rfl])
    clear hp hh hr
    go_enter Tryz.func38, Tryz.ntmps38
    go_wp2_with fail
    go_end0
    have he : Eff p w ((w.setCell ⟨p, 3, none⟩ (.int .i64 e)).setCell ⟨p, 4, none⟩ (.int .i64 a)) := ((Eff.refl p w).setCell ⟨p, 3, none⟩ (.inl rfl) _).setCell ⟨p, 4, none⟩ (.inl rfl) _
    refine ⟨rfl, ?_, he⟩
    rw [HF.out]
    exact HP.out.set HP.out.le (row_setCell (row_setCell HH.out)) HR.out hn h1 he
  · have h0' : ((es : Int) == 0) = false := by simp; omega
    have HF : Hid (Rs.flt ⟨i, es, av⟩ e a = ⟨i, es, av⟩) := Lib.hid (by unfold Rs.flt; rw [if_neg h0])
    clear hp hh hr
    go_enter Tryz.func38, Tryz.ntmps38
    go_wp2_with fail
    go_end0
    refine ⟨rfl, ?_, Eff.refl _ _⟩
    rw [HF.out]
    exact HP.out
set_option maxRecDepth 20000 in
set_option maxHeartbeats 400000 in
theorem rfail_any (p fin : Nat) (ts : List Tok) (s : Rs) (w : World) (hp : RR w p fin ts s) :
    Calls Tryz.prog 21 #[.pointer (some ⟨p, 0, none⟩)] w fun r w' => r = .returned (.tuple #[]) ∧ RR w' p fin ts (failA ts fin s) ∧ Eff p w w' := by
  obtain ⟨A, c, hh, hr, hn, h1⟩ := hp.is
  have HP := Lib.hid hp
  have hle := hp.le
  have c0 := cell_of_blk (o := 0) hh rfl
  have c1 := cell_of_blk (o := 1) hh rfl
  have c2 := cell_of_blk (o := 2) hh rfl
  have hlt := lt_of_heap' hh
  cases hx : ts[s.i]? with
  | none =>
    have hi := none_of hx hle
    have hi1 : ¬ (s.i : Int) < ts.length := by omega
    have HF : Hid (failA ts fin s = s.flt 6 fin) := Lib.hid (by unfold failA; simp only [hx])
    have HC : Hid (∀ y, Calls Tryz.prog 38 #[.pointer (some ⟨p, 0, none⟩), .int .i64 6, .int .i64 fin] (World.grew w y) fun r w' => r = .returned (.tuple #[]) ∧ RR w' p fin ts (s.flt 6 fin) ∧ Eff p w w') := Lib.hid (fun y => (fault_any 6 fin p fin ts s _ (HP.out.below (grew_below w y))).mono fun r w' h => ⟨h.1, h.2.1, (Eff.of_below (grew_below w y)).trans h.2.2⟩)
    clear hp hh hr hx hi h1
    go_enter Tryz.func21, Tryz.ntmps21
    go_wp2_with fail
    refine wp_region_grew (by kernel_rfl) (by as_aux_lemma => kernel_rfl) ?_
    repeat (go_big_quiet_step (fail))
    refine wpQuiet_nil ?_
    rintro _ ⟨y, rfl⟩
    go_wp2_with fail
    refine (HC.out y).mono ?_
    rintro r w1 ⟨rfl, hr1, he1⟩
    go_wp2_with fail
    go_end0
    exact ⟨rfl, by rw [HF.out]; exact hr1, he1⟩
  | some t =>
    have hi := tok_of hx
    have hi1 : (s.i : Int) < ts.length := by omega
    have hi0 : (0 : Int) ≤ s.i := by omega
    obtain ⟨b, o, rfl, hbl, t0, t1, t2, t3⟩ := tok_cells hr hx
    have HTX := Lib.hid hx
    have HF : Hid (failA ts fin s = s.flt 5 t.pos) := Lib.hid (by unfold failA; simp only [hx])
    have HC : Hid (∀ y, Calls Tryz.prog 38 #[.pointer (some ⟨p, 0, none⟩), .int .i64 5, .int .i64 t.pos] (World.grew w y) fun r w' => r = .returned (.tuple #[]) ∧ RR w' p fin ts (s.flt 5 t.pos) ∧ Eff p w w') := Lib.hid (fun y => (fault_any 5 t.pos p fin ts s _ (HP.out.below (grew_below w y))).mono fun r w' h => ⟨h.1, h.2.1, (Eff.of_below (grew_below w y)).trans h.2.2⟩)
    clear hp hh hr hx hi h1
    go_enter Tryz.func21, Tryz.ntmps21
    go_wp2_with fail
    refine wp_region_grew (by kernel_rfl) (by as_aux_lemma => kernel_rfl) ?_
    repeat (go_big_quiet_step (fail))
    refine wpQuiet_nil ?_
    rintro _ ⟨y, rfl⟩
    have HW : Hid (Eff p w (World.grew w y)) := Lib.hid (Eff.of_below (grew_below w y))
    have HPG := Lib.hid (HP.out.below (grew_below w y))
    obtain ⟨A', c', hh, hr, hn', h1⟩ := HPG.out.is
    have hz := (grew_below w y).size
    generalize World.grew w y = wg at *
    clear HC c0 c1 c2 t0 t1 t2 t3 hlt hbl
    have c0 := cell_of_blk (o := 0) hh rfl
    have c1 := cell_of_blk (o := 1) hh rfl
    have hlt := lt_of_heap' hh
    obtain ⟨b', o', rfl, hbl, t0, t1, t2, t3⟩ := tok_cells hr HTX.out
    clear hh hr hn' hn h1 t0 t1 t2
    go_wp2_with fail
    go_still_tail 12, (by kernel_rfl)
    change wpList _ _ _ _ _ wg.drew
    have HPD := Lib.hid (HPG.out.below (Below.refl _ _).drew)
    have HWD := Lib.hid (HW.out.trans (Eff.of_below (Below.refl wg.heap.size wg).drew))
    generalize wg.drew = w2 at HPD HWD ⊢
    clear HPG HW c0 c1 hlt hbl t3
    go_wp2_with fail
    refine (fault_any 5 t.pos p fin ts s _ HPD.out).mono ?_
    rintro r w3 ⟨rfl, hr3, he3⟩
    have HR3 := Lib.hid hr3
    have HE3 := Lib.hid (HWD.out.trans he3)
    clear hr3 he3
    go_wp2_with fail
    go_end0
    exact ⟨rfl, by rw [HF.out]; exact HR3.out, HE3.out⟩
set_option maxRecDepth 20000 in
set_option maxHeartbeats 400000 in
theorem rsees_any (u : List UInt8) (p fin : Nat) (ts : List Tok) (s : Rs) (w : World) (hp : RR w p fin ts s) :
    Calls Tryz.prog 36 #[.pointer (some ⟨p, 0, none⟩), vs u] w fun r w' => r = .returned (.bool (seesA ts s u)) ∧ Below w.heap.size w w' := by
  obtain ⟨A, c, hh, hr, hn, h1⟩ := hp.is
  obtain ⟨i, es, av⟩ := s
  have hle : i ≤ ts.length := hp.le
  have c0 := cell_of_blk (o := 0) hh rfl
  have c1 := cell_of_blk (o := 1) hh rfl
  have c3 := cell_of_blk (o := 3) hh rfl
  have hlt := lt_of_heap' hh
  simp only at c0 c1 c3
  by_cases h0 : es = 0
  case neg =>
    have h0' : ((es : Int) == 0) = false := by simp; omega
    have HS : Hid (seesA ts ⟨i, es, av⟩ u = false) := Lib.hid (by simp [seesA, h0])
    have hx : True := trivial
    clear hp hh hr hx
    go_enter Tryz.func36, Tryz.ntmps36
    go_wp2_with fail
    refine wp_region_grew (by kernel_rfl) (by as_aux_lemma => kernel_rfl) ?_
    repeat (go_big_quiet_step (fail))
    refine wpQuiet_nil ?_
    rintro _ ⟨y, rfl⟩
    go_wp2_with fail
    go_ret
    exact ⟨by rw [HS.out]; rfl, grew_below w y⟩
  subst h0
  cases hx : ts[i]? with
  | none =>
    have hi := none_of hx hle
    have hi1 : decide ((i : Int) < ts.length) = false := by simp; omega
    have hi2 : decide (i < ts.length) = false := by simp; omega
    have HS : Hid (seesA ts ⟨i, 0, av⟩ u = false) := Lib.hid (by simp [seesA, hx])
    clear hi
    clear hp hh hr hx
    go_enter Tryz.func36, Tryz.ntmps36
    go_wp2_with fail
    refine wp_region_grew (by kernel_rfl) (by as_aux_lemma => kernel_rfl) ?_
    repeat (go_big_quiet_step (fail))
    refine wpQuiet_nil ?_
    rintro _ ⟨y, rfl⟩
    go_wp2_with fail
    go_ret
    exact ⟨by rw [HS.out]; rfl, grew_below w y⟩
  | some t =>
    have hi := tok_of hx
    have hi1 : (i : Int) < ts.length := by omega
    have hi0 : (0 : Int) ≤ i := by omega
    obtain ⟨b, o, rfl, hbl, t0, t1, t2, t3⟩ := tok_cells hr hx
    by_cases hk : t.kind = 2
    case pos =>
      have HS : Hid (seesA ts ⟨i, 0, av⟩ u = false) := Lib.hid (by simp [seesA, hx, hk])
      rw [hk] at t0
      clear hk hi
      clear hp hh hr hx
      go_enter Tryz.func36, Tryz.ntmps36
      go_wp2_with fail
      refine wp_region_grew (by kernel_rfl) (by as_aux_lemma => kernel_rfl) ?_
      repeat (go_big_quiet_step (fail))
      refine wpQuiet_nil ?_
      rintro _ ⟨y, rfl⟩
      go_wp2_with fail
      go_ret
      exact ⟨by rw [HS.out]; rfl, grew_below w y⟩
    have hk' : ((t.kind : Int) != 2) = true := by simp; omega
    cases ht : (t.text == u) with
    | true =>
      have HS : Hid (seesA ts ⟨i, 0, av⟩ u = true) := Lib.hid (by simp [seesA, hx, hk, ht])
      clear hk hi
      clear hp hh hr hx
      go_enter Tryz.func36, Tryz.ntmps36
      go_wp2_with fail
      refine wp_region_grew (by kernel_rfl) (by as_aux_lemma => kernel_rfl) ?_
      repeat (go_big_quiet_step (fail))
      refine wpQuiet_nil ?_
      rintro _ ⟨y, rfl⟩
      go_wp2_with fail
      go_ret
      exact ⟨by rw [HS.out]; rfl, grew_below w y⟩
    | false =>
      have HS : Hid (seesA ts ⟨i, 0, av⟩ u = false) := Lib.hid (by simp [seesA, hx, ht])
      clear hk hi
      clear hp hh hr hx
      go_enter Tryz.func36, Tryz.ntmps36
      go_wp2_with fail
      refine wp_region_grew (by kernel_rfl) (by as_aux_lemma => kernel_rfl) ?_
      repeat (go_big_quiet_step (fail))
      refine wpQuiet_nil ?_
      rintro _ ⟨y, rfl⟩
      go_wp2_with fail
      go_ret
      exact ⟨by rw [HS.out]; rfl, grew_below w y⟩
set_option maxRecDepth 20000 in
set_option maxHeartbeats 400000 in
theorem ris_any (u : List UInt8) (p fin : Nat) (ts : List Tok) (s : Rs) (w : World) (hp : RR w p fin ts s) :
    Calls Tryz.prog 12 #[.pointer (some ⟨p, 0, none⟩), vs u] w fun r w' => r = .returned (.bool (seesA ts s u)) ∧ RR w' p fin ts (isA ts s u) ∧ Eff p w w' := by
  have HP := Lib.hid hp
  cases hb : seesA ts s u with
  | false =>
    have HB := Lib.hid hb
    have HI : Hid (isA ts s u = s) := Lib.hid (by unfold isA; rw [hb]; rfl)
    clear hp hb
    go_enter Tryz.func12, Tryz.ntmps12
    go_wp2_with fail
    refine (rsees_any u p fin ts s _ HP.out).mono ?_
    rintro r w1 ⟨rfl, hb1⟩
    rw [HB.out]
    have HB1 := Lib.hid hb1
    clear hb1
    go_wp2_with fail
    go_ret
    exact ⟨rfl, by rw [HI.out]; exact HP.out.below HB1.out, Eff.of_below HB1.out⟩
  | true =>
    have HB := Lib.hid hb
    have HI : Hid (isA ts s u = s.next) := Lib.hid (by unfold isA; rw [hb]; rfl)
    have hlt := sees_lt hb
    have HLT := Lib.hid hlt
    clear hp hb
    go_enter Tryz.func12, Tryz.ntmps12
    go_wp2_with fail
    refine (rsees_any u p fin ts s _ HP.out).mono ?_
    rintro r w1 ⟨rfl, hb1⟩
    rw [HB.out]
    have HB1 := Lib.hid hb1
    have HP1 := Lib.hid (HP.out.below hb1)
    clear hb1
    obtain ⟨A, c, hh, hr, hn, h1⟩ := HP1.out.is
    have HH := Lib.hid hh
    have HR := Lib.hid hr
    have HN := Lib.hid hn
    have c1 := cell_of_blk (o := 1) hh rfl
    have f1 := frozen_of_blk (o := 1) hh
    have hpl := lt_of_heap' hh
    have hle : (s.i : Int) ≤ 5000 := by have := HP.out.few; omega
    clear hh hr hn hlt
    go_wp2_with fail
    go_ret
    have he : Eff p w1 (w1.setCell ⟨p, 1, none⟩ (.int .i64 ((s.i : Int) + 1))) := (Eff.refl p w1).setCell ⟨p, 1, none⟩ (.inl rfl) _
    exact ⟨rfl, by rw [HI.out]; exact HP1.out.set (s' := s.next) HLT.out (row_setCell HH.out) HR.out HN.out h1 he, (Eff.of_below HB1.out).trans he⟩
set_option maxRecDepth 20000 in
set_option maxHeartbeats 400000 in
theorem rmust_any (u : List UInt8) (p fin : Nat) (ts : List Tok) (s : Rs) (w : World) (hp : RR w p fin ts s) :
    Calls Tryz.prog 16 #[.pointer (some ⟨p, 0, none⟩), vs u] w fun r w' => r = .returned (.tuple #[]) ∧ RR w' p fin ts (mustA ts fin s u) ∧ Eff p w w' := by
  have HP := Lib.hid hp
  clear hp
  cases hb : seesA ts s u with
  | false =>
    have HI : Hid (isA ts s u = s) := Lib.hid (by unfold isA; rw [hb]; rfl)
    have HM : Hid (mustA ts fin s u = failA ts fin s) := Lib.hid (by unfold mustA; rw [hb]; rfl)
    have HB := Lib.hid hb
    clear hb
    go_enter Tryz.func16, Tryz.ntmps16
    go_wp2_with fail
    refine (ris_any u p fin ts s _ HP.out).mono ?_
    rintro r w1 ⟨rfl, hr1, he1⟩
    rw [HB.out]
    have HR1 := Lib.hid hr1
    have HE1 := Lib.hid he1
    clear hr1 he1
    go_wp2_with fail
    refine (rfail_any p fin ts s _ (by have := HR1.out; rwa [HI.out] at this)).mono ?_
    rintro r w2 ⟨rfl, hr2, he2⟩
    have HR2 := Lib.hid hr2
    have HE2 := Lib.hid (HE1.out.trans he2)
    clear hr2 he2
    go_wp2_with fail
    go_end0
    exact ⟨rfl, by rw [HM.out]; exact HR2.out, HE2.out⟩
  | true =>
    have HI : Hid (isA ts s u = s.next) := Lib.hid (by unfold isA; rw [hb]; rfl)
    have HM : Hid (mustA ts fin s u = s.next) := Lib.hid (by unfold mustA; rw [hb]; rfl)
    have HB := Lib.hid hb
    clear hb
    go_enter Tryz.func16, Tryz.ntmps16
    go_wp2_with fail
    refine (ris_any u p fin ts s _ HP.out).mono ?_
    rintro r w1 ⟨rfl, hr1, he1⟩
    rw [HB.out]
    have HR1 := Lib.hid hr1
    have HE1 := Lib.hid he1
    clear hr1 he1
    go_wp2_with fail
    go_end0
    exact ⟨rfl, by rw [HM.out, ← HI.out]; exact HR1.out, HE1.out⟩
end Go.Proofs.YtcekampdldkjlaaGreatDoor
namespace Go.Proofs.YtcekampdldkjlaaGreatDoor
open Go.RowKit
theorem ix_contains (l : List (List UInt8)) (s : List UInt8) : l.contains s = (ixS l s).isSome := by
  rw [ixS_eq, Bool.eq_iff_iff, List.isSome_idxOf?, List.contains_iff_mem]
theorem row_rd {w : World} {b : Nat} {C : Array Value} {l : List (List UInt8)} (h : w.heap[b]? = some (.cells C 9 (0, 0))) (hC : C = (l.map vs).toArray) : RdS w (some ⟨b, 0, none⟩) l := by
  intro _
  refine ⟨b, 0, rfl, lt_of_heap' h, fun k x hx j v hv => ?_⟩
  cases j with
  | zero =>
    simp at hv
    subst hv
    rw [show 0 + k * 1 + 0 = k by omega]
    exact cell_of_blk h (by rw [hC]; simp [hx])
  | succ j => simp at hv
set_option maxRecDepth 20000 in
theorem index_any (l : List (List UInt8)) (A : Option Addr) (c : Nat) (s : List UInt8) (w : World) (hr : RdS w A l) (hl : l.length ≤ 100000) :
    Calls Tryz.prog 42 #[.slice A l.length c, vs s] w fun e w' => e = .returned (.int .i64 (idx (ixS l s))) ∧ w = w' := by
  go_enter Tryz.func42, Tryz.ntmps42
  go_wp2_with fail
  go_loop [5] (fun i => ∃ k : Nat, k ≤ l.length ∧ i = .int .i64 k ∧ ∀ (j : Nat) x, l[j]? = some x → j < k → (s == x) = false) (fun i => l.length - (intOf i).toNat)
  case atStart => exact ⟨0, Nat.zero_le _, rfl, fun _ _ _ h => absurd h (by omega)⟩
  case round =>
    obtain ⟨k, hk, rfl, hno⟩ := hrel
    have Hno := Lib.hid hno; clear hno
    by_cases hlt : k < l.length
    · obtain ⟨x, hx⟩ := get_of_lt hlt
      obtain ⟨b, o, rfl, hbs, c0⟩ := hr.item hx
      have Hx := Lib.hid hx
      clear hr hx
      have hk1 : (k : Int) < l.length := by omega
      cases hp : (x == s) with
      | true =>
        have Hp : Hid ((s == x) = true) := Lib.hid (by rw [← hp, BEq.comm])
        go_wp2_with fail
        go_ret
        exact ⟨by unfold ixS; rw [findIdx_some Hx.out Hp.out Hno.out]; rfl, rfl⟩
      | false =>
        have Hp : Hid ((s == x) = false) := Lib.hid (by rw [← hp, BEq.comm])
        go_wp2_with fail
        exact ⟨⟨k + 1, hlt, by go_num, below_succ (p := fun x => s == x) Hx.out Hp.out Hno.out⟩, by simp [intOf]; omega⟩
    · have : k = l.length := by omega
      subst this
      have hk1 : ¬ ((l.length : Nat) : Int) < l.length := by omega
      go_wp2_with fail
      go_ret
      exact ⟨by unfold ixS; rw [findIdx_none Hno.out]; rfl, rfl⟩
theorem words_any (w : World) : Calls Tryz.prog 72 #[] w fun e w' => Below w.heap.size w w' ∧ ∃ A, e = .returned (.slice A keyWords.length 31) ∧ RdS w' A keyWords := by
  go_enter Tryz.func72, Tryz.ntmps72
  go_wp2_with fail
  go_ret
  exact ⟨(Below.refl _ _).alloc (Nat.le_refl _) _, _, rfl, row_rd (heap_alloc_new w _) (by kernel_rfl)⟩
theorem key_ix (s : List UInt8) : keyF s = (ixS keyWords s).isSome := by unfold keyF; exact ix_contains keyWords s
theorem ix_neg (o : Option Nat) : decide (idx o < 0) = !o.isSome := by
  cases o with
  | none => rfl
  | some i => show decide ((i : Int) < 0) = false; exact decide_eq_false (by omega)
theorem RR.box {w : World} {p fin : Nat} {ts : List Tok} {s : Rs} (h : RR w p fin ts s) {b o : Nat} (hb : p < b) (v : Value) : RR (w.setCell ⟨b, o, none⟩ v) p fin ts s :=
  h.keep (by simp) (fun k hk => Below.heap_setCell _ _ _ _ (by simp; omega))
theorem RR.alloc {w : World} {p fin : Nat} {ts : List Tok} {s : Rs} (h : RR w p fin ts s) (o : Obj) : RR (w.alloc o) p fin ts s := h.below ((Below.refl _ _).alloc (Nat.le_refl _) _)
theorem named_lt {ts : List Tok} {s : Rs} (h : namedA ts s = true) : s.i + 1 ≤ ts.length ∧ s.e = 0 ∧ ts[s.i]? = some (tokA ts s) := by
  unfold namedA at h
  simp only [Bool.and_eq_true, beq_iff_eq] at h
  cases hx : ts[s.i]? with
  | none => rw [hx] at h; cases h.2
  | some t => exact ⟨by have := tok_of hx; omega, h.1, by simp [tokA, hx]⟩
theorem num_lt {ts : List Tok} {s : Rs} (h : isNumA ts s = true) : s.i + 1 ≤ ts.length ∧ s.e = 0 ∧ ts[s.i]? = some (tokA ts s) := by
  unfold isNumA at h
  simp only [Bool.and_eq_true, beq_iff_eq] at h
  cases hx : ts[s.i]? with
  | none => rw [hx] at h; cases h.2
  | some t => exact ⟨by have := tok_of hx; omega, h.1, by simp [tokA, hx]⟩
set_option maxRecDepth 20000 in
set_option maxHeartbeats 400000 in
theorem named_any (p fin : Nat) (ts : List Tok) (s : Rs) (w : World) (hp : RR w p fin ts s) :
    Calls Tryz.prog 41 #[.pointer (some ⟨p, 0, none⟩)] w fun r w' => r = .returned (.bool (namedA ts s)) ∧ Below w.heap.size w w' := by
  obtain ⟨A, c, hh, hr, hn, h1⟩ := hp.is
  obtain ⟨i, es, av⟩ := s
  have hle : i ≤ ts.length := hp.le
  have HP := Lib.hid hp
  have c0 := cell_of_blk (o := 0) hh rfl
  have c1 := cell_of_blk (o := 1) hh rfl
  have c3 := cell_of_blk (o := 3) hh rfl
  have hlt := lt_of_heap' hh
  simp only at c0 c1 c3
  by_cases h0 : es = 0
  case neg =>
    have h0' : ((es : Int) == 0) = false := by simp; omega
    have HS : Hid (namedA ts ⟨i, es, av⟩ = false) := Lib.hid (by simp [namedA, h0])
    clear hp hh hr
    go_enter Tryz.func41, Tryz.ntmps41
    go_wp2_with fail
    refine wp_region_grew (by kernel_rfl) (by as_aux_lemma => kernel_rfl) ?_
    repeat (go_big_quiet_step (fail))
    refine wpQuiet_nil ?_
    rintro _ ⟨y, rfl⟩
    go_wp2_with fail
    go_ret
    exact ⟨by rw [HS.out]; rfl, grew_below w y⟩
  subst h0
  cases hx : ts[i]? with
  | none =>
    have hi := none_of hx hle
    have hi1 : decide ((i : Int) < ts.length) = false := by simp; omega
    have hi2 : decide (i < ts.length) = false := by simp; omega
    have HS : Hid (namedA ts ⟨i, 0, av⟩ = false) := Lib.hid (by simp [namedA, hx])
    clear hi hp hh hr hx
    go_enter Tryz.func41, Tryz.ntmps41
    go_wp2_with fail
    refine wp_region_grew (by kernel_rfl) (by as_aux_lemma => kernel_rfl) ?_
    repeat (go_big_quiet_step (fail))
    refine wpQuiet_nil ?_
    rintro _ ⟨y, rfl⟩
    go_wp2_with fail
    go_ret
    exact ⟨by rw [HS.out]; rfl, grew_below w y⟩
  | some t =>
    have hi := tok_of hx
    have hi1 : (i : Int) < ts.length := by omega
    have hi0 : (0 : Int) ≤ i := by omega
    obtain ⟨b, o, rfl, hbl, t0, t1, t2, t3⟩ := tok_cells hr hx
    by_cases hk : t.kind = 1
    case neg =>
      have HS : Hid (namedA ts ⟨i, 0, av⟩ = false) := Lib.hid (by simp [namedA, hx, hk])
      have hk' : ((t.kind : Int) == 1) = false := by simp; omega
      clear hk hi hp hh hr hx
      go_enter Tryz.func41, Tryz.ntmps41
      go_wp2_with fail
      refine wp_region_grew (by kernel_rfl) (by as_aux_lemma => kernel_rfl) ?_
      repeat (go_big_quiet_step (fail))
      refine wpQuiet_nil ?_
      rintro _ ⟨y, rfl⟩
      go_wp2_with fail
      go_ret
      exact ⟨by rw [HS.out]; rfl, grew_below w y⟩
    have HS : Hid (namedA ts ⟨i, 0, av⟩ = !(ixS keyWords t.text).isSome) := Lib.hid (by simp [namedA, hx, hk, key_ix])
    rw [hk] at t0
    have hnb := hn b o rfl
    have HPB : ¬ b = p := by omega
    clear hk hi hp hh hr hx t2 t3 hn h1 hnb
    go_enter Tryz.func41, Tryz.ntmps41
    go_wp2_with fail
    go_region_held3 (fun X => X.cell? ⟨p, 0, none⟩ = some (.slice (some ⟨b, o, none⟩) ts.length c) ∧ X.cell? ⟨p, 1, none⟩ = some (.int .i64 i) ∧ X.cell? ⟨p, 3, none⟩ = some (.int .i64 0) ∧ X.cell? ⟨b, o + i * 4, none⟩ = some (.int .i64 1) ∧ X.cell? ⟨b, o + i * 4 + 1, none⟩ = some (vs t.text)) ((go_split_ands; refine ⟨?_, ?_, ?_, ?_, ?_⟩ <;> (first | go_keep | (simp [go_sem, *]; done))))
      (first | (go_at_call 72; refine (words_any _).mono ?_; rintro e w4 ⟨hb4, AW, rfl, hrw⟩; obtain ⟨hc, hf⟩ := bcell hb4; simp at hc hf; have hz4 := hb4.size; simp at hz4; have x1 : p < w4.heap.size := (by omega); have x2 : b < w4.heap.size := (by omega)) | (go_at_call 42; refine (index_any keyWords AW 31 t.text _ (by first | exact hrw | exact hrw.below (Below.refl _ _).drew) (by decide)).mono ?_; rintro e w5 ⟨rfl, rfl⟩))
    have HB4 : Hid (Below w.heap.size w w4) := Lib.hid ((Below.refl w.heap.size w).drew.trans (hb4.mono (by simp)))
    clear hb4 hrw hc hf
    go_wp2_with fail
    go_ret
    exact ⟨by rw [HS.out]; exact congrArg (fun x => Ending.returned (.bool x)) (ix_neg _), HB4.out⟩
end Go.Proofs.YtcekampdldkjlaaGreatDoor
namespace Go.Proofs.YtcekampdldkjlaaGreatDoor
open Go.RowKit
set_option maxRecDepth 20000 in
set_option maxHeartbeats 400000 in
theorem rname_any (p fin : Nat) (ts : List Tok) (s : Rs) (w : World) (hp : RR w p fin ts s) :
    Calls Tryz.prog 15 #[.pointer (some ⟨p, 0, none⟩)] w fun r w' => r = .returned (nameA ts fin s).1.agg ∧ RR w' p fin ts (nameA ts fin s).2 ∧ Eff p w w' := by
  have HP := Lib.hid hp
  have hpl := hp.lt
  clear hp
  cases hb : namedA ts s with
  | false =>
    have HB := Lib.hid hb
    have HM : Hid (nameA ts fin s = (zT, failA ts fin s)) := Lib.hid (by unfold nameA; rw [hb]; rfl)
    clear hb
    go_enter Tryz.func15, Tryz.ntmps15
    go_wp2_with fail
    refine (named_any p fin ts s _ (HP.out.alloc _)).mono ?_
    rintro r w1 ⟨rfl, hb1⟩
    rw [HB.out]
    have HR1 := Lib.hid ((HP.out.alloc zTok).below hb1)
    have HX1 : Hid (w1.heap[w.heap.size]? = some zTok) := Lib.hid ((hb1.block _ (by simp)).trans (heap_alloc_new w _))
    have HE1 : Hid (Eff p w w1) := Lib.hid (((Eff.refl p w).alloc zTok).trans (Eff.of_below hb1))
    clear hb1
    go_wp2_with fail
    refine (rfail_any p fin ts s _ HR1.out).mono ?_
    rintro r w2 ⟨rfl, hr2, he2⟩
    have HR2 := Lib.hid hr2
    have hx2 : w2.heap[w.heap.size]? = some zTok := (he2.block _ (lt_of_heap' HX1.out) (by omega)).trans HX1.out
    have HE2 := Lib.hid (HE1.out.trans he2)
    obtain ⟨d0, d1, d2, d3, f0, f1, f2, f3, dl⟩ := BoxT.mk' (w := w) hx2
    clear hr2 he2 hx2
    go_wp2_with fail
    refine bodyPost_ret (v := zT.agg) (by simp [results, Tryz.results15, go_sem, zT, *]) rfl ?_
    refine ⟨by rw [HM.out], ?_, ?_⟩
    · rw [HM.out]
      exact (((HR2.out.box hpl _).box hpl _).box hpl _).box hpl _
    · exact (((HE2.out.setCell ⟨w.heap.size, 0, none⟩ (.inr (Nat.le_refl _)) _).setCell ⟨w.heap.size, 1, none⟩ (.inr (Nat.le_refl _)) _).setCell ⟨w.heap.size, 2, none⟩ (.inr (Nat.le_refl _)) _).setCell ⟨w.heap.size, 3, none⟩ (.inr (Nat.le_refl _)) _
  | true =>
    have HB := Lib.hid hb
    have HM : Hid (nameA ts fin s = (tokA ts s, s.next)) := Lib.hid (by unfold nameA; rw [hb]; rfl)
    obtain ⟨n1, n2, n3⟩ := named_lt hb
    have N1 := Lib.hid n1
    have N3 := Lib.hid n3
    have hle : (s.i : Int) ≤ 5000 := by have := HP.out.few; omega
    clear hb n1 n2 n3
    go_enter Tryz.func15, Tryz.ntmps15
    go_wp2_with fail
    refine (named_any p fin ts s _ (HP.out.alloc _)).mono ?_
    rintro r w1 ⟨rfl, hb1⟩
    rw [HB.out]
    have HR1 := Lib.hid ((HP.out.alloc zTok).below hb1)
    have HX1 : Hid (w1.heap[w.heap.size]? = some zTok) := Lib.hid ((hb1.block _ (by simp)).trans (heap_alloc_new w _))
    have HE1 : Hid (Eff p w w1) := Lib.hid (((Eff.refl p w).alloc zTok).trans (Eff.of_below hb1))
    clear hb1
    obtain ⟨A, c, hh, hr, hn, h1⟩ := HR1.out.is
    have HH := Lib.hid hh
    have HR := Lib.hid hr
    have HN := Lib.hid hn
    have H1 := Lib.hid h1
    have c1 := cell_of_blk (o := 1) hh rfl
    have f1 := frozen_of_blk (o := 1) hh
    have hpl1 := lt_of_heap' hh
    clear hh hr hn h1
    go_upto_region 5 with fail
    have he : Eff p w1 (w1.setCell ⟨p, 1, none⟩ (.int .i64 ((s.i : Int) + 1))) := (Eff.refl p w1).setCell ⟨p, 1, none⟩ (.inl rfl) _
    have HR2 := Lib.hid (HR1.out.set (s' := s.next) N1.out (row_setCell HH.out) HR.out HN.out H1.out he)
    have HX2 : Hid ((w1.setCell ⟨p, 1, none⟩ (.int .i64 ((s.i : Int) + 1))).heap[w.heap.size]? = some zTok) := Lib.hid ((he.block _ (lt_of_heap' HX1.out) (by omega)).trans HX1.out)
    have HE2 := Lib.hid (HE1.out.trans he)
    generalize w1.setCell ⟨p, 1, none⟩ (.int .i64 ((s.i : Int) + 1)) = w2 at *
    clear he HH HR HN H1 c1 f1 hpl1 HR1 HX1 HE1
    obtain ⟨A', c', hh, hr, hn, h1⟩ := HR2.out.is
    obtain ⟨b, o, rfl, hbl, t0, t1, t2, t3⟩ := tok_cells hr N3.out
    have c0 := cell_of_blk (o := 0) hh rfl
    have c1 := cell_of_blk (o := 1) hh rfl
    have hpl2 := lt_of_heap' hh
    have k0 : (0 : Int) ≤ s.i := by omega
    have k1 : (s.i : Int) < ts.length := by have := N1.out; omega
    have k2 : ((s.next.i : Nat) : Int) = (s.i : Int) + 1 := by simp [Rs.next]
    rw [k2] at c1
    clear hh hr hn h1 k2
    have kw : IntKind.i64.wrap (s.i : Int) = s.i := IntWalk.i64_in _ (by omega)
    go_wp2_with fail
    go_still_tail 11, (by kernel_rfl)
    change wpList _ _ _ _ _ w2.drew
    have hx2 : w2.drew.heap[w.heap.size]? = some zTok := HX2.out
    have HR3 := Lib.hid (HR2.out.below (Below.refl _ _).drew)
    have HE3 := Lib.hid (HE2.out.trans (Eff.of_below (Below.refl w2.heap.size w2).drew))
    generalize w2.drew = w3 at hx2 HR3 HE3 ⊢
    obtain ⟨d0, d1, d2, d3, f0, f1, f2, f3, dl⟩ := BoxT.mk' (w := w) hx2
    clear hx2 c0 c1 t0 t1 t2 t3 hpl2 hbl HX2
    go_wp2_with fail
    refine bodyPost_ret (v := (tokA ts s).agg) (by simp [results, Tryz.results15, go_sem, *]) rfl ?_
    refine ⟨by rw [HM.out], ?_, ?_⟩
    · rw [HM.out]
      exact (((HR3.out.box hpl _).box hpl _).box hpl _).box hpl _
    · exact (((HE3.out.setCell ⟨w.heap.size, 0, none⟩ (.inr (Nat.le_refl _)) _).setCell ⟨w.heap.size, 1, none⟩ (.inr (Nat.le_refl _)) _).setCell ⟨w.heap.size, 2, none⟩ (.inr (Nat.le_refl _)) _).setCell ⟨w.heap.size, 3, none⟩ (.inr (Nat.le_refl _)) _
end Go.Proofs.YtcekampdldkjlaaGreatDoor
namespace Go.Proofs.YtcekampdldkjlaaGreatDoor
open Go.RowKit
set_option maxRecDepth 20000 in
set_option maxHeartbeats 1000000 in
theorem rnumber_any (most : Nat) (p fin : Nat) (ts : List Tok) (s : Rs) (w : World) (hp : RR w p fin ts s) :
    Calls Tryz.prog 17 #[.pointer (some ⟨p, 0, none⟩), .int .i64 most] w fun r w' => r = .returned (.int .i64 ((numberA ts fin s most).1 : Nat)) ∧ RR w' p fin ts (numberA ts fin s most).2 ∧ Eff p w w' := by
  obtain ⟨A, c, hh, hr, hn, h1⟩ := hp.is
  obtain ⟨i, es, av⟩ := s
  have hle : i ≤ ts.length := hp.le
  have HP := Lib.hid hp
  have c0 := cell_of_blk (o := 0) hh rfl
  have c1 := cell_of_blk (o := 1) hh rfl
  have c3 := cell_of_blk (o := 3) hh rfl
  have hlt := lt_of_heap' hh
  simp only at c0 c1 c3
  by_cases h0 : es = 0
  case neg =>
    have h0' : ((es : Int) != 0) = true := by simp; omega
    have HM : Hid (numberA ts fin ⟨i, es, av⟩ most = (0, failA ts fin ⟨i, es, av⟩)) := Lib.hid (by simp [numberA, isNumA, h0])
    clear hp hh hr
    go_enter Tryz.func17, Tryz.ntmps17
    go_wp2_with fail
    refine wp_region_grew (by kernel_rfl) (by as_aux_lemma => kernel_rfl) ?_
    repeat (go_big_quiet_step (fail))
    refine wpQuiet_nil ?_
    rintro _ ⟨y, rfl⟩
    go_wp2_with fail
    refine (rfail_any p fin ts _ _ (HP.out.below (grew_below w y))).mono ?_
    rintro r w1 ⟨rfl, hr1, he1⟩
    have HR1 := Lib.hid hr1
    have HE1 := Lib.hid ((Eff.of_below (grew_below w y)).trans he1)
    clear hr1 he1
    go_wp2_with fail
    go_ret
    exact ⟨by rw [HM.out]; rfl, by rw [HM.out]; exact HR1.out, HE1.out⟩
  subst h0
  cases hx : ts[i]? with
  | none =>
    have hi := none_of hx hle
    have hi1 : decide ((ts.length : Int) ≤ i) = true := by simp; omega
    have hi2 : decide (ts.length ≤ i) = true := by simp; omega
    have HM : Hid (numberA ts fin ⟨i, 0, av⟩ most = (0, failA ts fin ⟨i, 0, av⟩)) := Lib.hid (by simp [numberA, isNumA, hx])
    clear hi hp hh hr hx
    go_enter Tryz.func17, Tryz.ntmps17
    go_wp2_with fail
    refine wp_region_grew (by kernel_rfl) (by as_aux_lemma => kernel_rfl) ?_
    repeat (go_big_quiet_step (fail))
    refine wpQuiet_nil ?_
    rintro _ ⟨y, rfl⟩
    go_wp2_with fail
    refine (rfail_any p fin ts _ _ (HP.out.below (grew_below w y))).mono ?_
    rintro r w1 ⟨rfl, hr1, he1⟩
    have HR1 := Lib.hid hr1
    have HE1 := Lib.hid ((Eff.of_below (grew_below w y)).trans he1)
    clear hr1 he1
    go_wp2_with fail
    go_ret
    exact ⟨by rw [HM.out]; rfl, by rw [HM.out]; exact HR1.out, HE1.out⟩
  | some t =>
    have hi := tok_of hx
    have hi1 : (i : Int) < ts.length := by omega
    have hi0 : (0 : Int) ≤ i := by omega
    have hi2 : decide ((ts.length : Int) ≤ i) = false := by simp; omega
    have hi3 : decide (ts.length ≤ i) = false := by simp; omega
    obtain ⟨b, o, rfl, hbl, t0, t1, t2, t3⟩ := tok_cells hr hx
    by_cases hk : t.kind = 2
    case neg =>
      have HM : Hid (numberA ts fin ⟨i, 0, av⟩ most = (0, failA ts fin ⟨i, 0, av⟩)) := Lib.hid (by simp [numberA, isNumA, hx, hk])
      have hk' : ((t.kind : Int) != 2) = true := by simp; omega
      clear hk hi hp hh hr hx
      go_enter Tryz.func17, Tryz.ntmps17
      go_wp2_with fail
      refine wp_region_grew (by kernel_rfl) (by as_aux_lemma => kernel_rfl) ?_
      repeat (go_big_quiet_step (fail))
      refine wpQuiet_nil ?_
      rintro _ ⟨y, rfl⟩
      go_wp2_with fail
      refine (rfail_any p fin ts _ _ (HP.out.below (grew_below w y))).mono ?_
      rintro r w1 ⟨rfl, hr1, he1⟩
      have HR1 := Lib.hid hr1
      have HE1 := Lib.hid ((Eff.of_below (grew_below w y)).trans he1)
      clear hr1 he1
      go_wp2_with fail
      go_ret
      exact ⟨by rw [HM.out]; rfl, by rw [HM.out]; exact HR1.out, HE1.out⟩
    rw [hk] at t0
    have HI : Hid (i + 1 ≤ ts.length) := Lib.hid hi
    have HX := Lib.hid hx
    have hle5 : (i : Int) ≤ 5000 := by have := hp.few; omega
    by_cases hm : most < t.n
    · have HM : Hid (numberA ts fin ⟨i, 0, av⟩ most = (t.n, Rs.flt ⟨i + 1, 0, av⟩ 10 t.pos)) := Lib.hid (by simp [numberA, isNumA, tokA, hx, hk, hm, Rs.next])
      have hm' : (most : Int) < t.n := by omega
      clear hk hi hp hh hr hx hm hn h1 hle
      go_enter Tryz.func17, Tryz.ntmps17
      go_wp2_with fail
      refine wp_region_grew (by kernel_rfl) (by as_aux_lemma => kernel_rfl) ?_
      repeat (go_big_quiet_step (fail))
      refine wpQuiet_nil ?_
      rintro _ ⟨y, rfl⟩
      have HP1 := Lib.hid (HP.out.below (grew_below w y))
      have HE1 := Lib.hid (Eff.of_below (p := p) (grew_below w y))
      have hz1 := (grew_below w y).size
      generalize World.grew w y = w1 at *
      clear c0 c1 c3 t0 t1 t2 t3 hlt hbl
      obtain ⟨A', c', hh, hr, hn, h1⟩ := HP1.out.is
      have HH := Lib.hid hh
      have HR := Lib.hid hr
      have HN := Lib.hid hn
      have H1 := Lib.hid h1
      have c1 := cell_of_blk (o := 1) hh rfl
      have f1 := frozen_of_blk (o := 1) hh
      have hpl1 := lt_of_heap' hh
      simp only at c1
      clear hh hr hn h1
      go_upto_region 5 with fail
      have he : Eff p w1 (w1.setCell ⟨p, 1, none⟩ (.int .i64 ((i : Int) + 1))) := (Eff.refl p w1).setCell ⟨p, 1, none⟩ (.inl rfl) _
      have HR2 : Hid (RR (w1.setCell ⟨p, 1, none⟩ (.int .i64 ((i : Int) + 1))) p fin ts ⟨i + 1, 0, av⟩) := Lib.hid (HP1.out.set (s' := ⟨i + 1, 0, av⟩) HI.out (row_setCell HH.out) HR.out HN.out H1.out he)
      have HE2 := Lib.hid (HE1.out.trans he)
      have hz2 : w1.heap.size ≤ (w1.setCell ⟨p, 1, none⟩ (.int .i64 ((i : Int) + 1))).heap.size := by simp
      generalize w1.setCell ⟨p, 1, none⟩ (.int .i64 ((i : Int) + 1)) = w2 at *
      clear he HH HR HN H1 c1 f1 hpl1 HP1 HE1
      obtain ⟨A', c', hh, hr, hn, h1⟩ := HR2.out.is
      obtain ⟨b, o, rfl, hbl, t0, t1, t2, t3⟩ := tok_cells hr HX.out
      have c0 := cell_of_blk (o := 0) hh rfl
      have c1 := cell_of_blk (o := 1) hh rfl
      have hpl2 := lt_of_heap' hh
      have k2 : ((i + 1 : Nat) : Int) = (i : Int) + 1 := by omega
      simp only at c0 c1
      rw [k2] at c1
      have kw : IntKind.i64.wrap (i : Int) = i := IntWalk.i64_in _ (by omega)
      clear hh hr hn h1 k2
      go_wp2_with fail
      go_region
      have hbd : Below w2.heap.size w2 (w2.alloc (.cells #[.int .i64 t.kind, .string ⟨t.text.toArray⟩, .int .i64 t.n, .int .i64 t.pos] 55 (0, 0))).drew := ((Below.refl _ _).alloc (Nat.le_refl _) _).drew
      have HR3 := Lib.hid (HR2.out.below hbd)
      have HX3 : Hid ((w2.alloc (.cells #[.int .i64 t.kind, .string ⟨t.text.toArray⟩, .int .i64 t.n, .int .i64 t.pos] 55 (0, 0))).drew.heap[w2.heap.size]? = some (.cells #[.int .i64 t.kind, .string ⟨t.text.toArray⟩, .int .i64 t.n, .int .i64 t.pos] 55 (0, 0))) := Lib.hid (heap_alloc_new w2 _)
      have HE3 := Lib.hid (HE2.out.trans (Eff.of_below hbd))
      have hpz := HR2.out.lt
      generalize hzz : w2.heap.size = b3 at *
      generalize (w2.alloc (.cells #[.int .i64 t.kind, .string ⟨t.text.toArray⟩, .int .i64 t.n, .int .i64 t.pos] 55 (0, 0))).drew = w3 at *
      clear hbd hzz c0 c1 t0 t1 t2 t3 hpl2 hbl
      have d2 := cell_of_blk (o := 2) HX3.out rfl
      have d3 := cell_of_blk (o := 3) HX3.out rfl
      have dl := lt_of_heap' HX3.out
      go_wp2_with fail
      refine (fault_any 10 t.pos p fin ts ⟨i + 1, 0, av⟩ _ HR3.out).mono ?_
      rintro r w4 ⟨rfl, hr4, he4⟩
      have HR4 := Lib.hid hr4
      have hx4 := (he4.block _ dl (by omega)).trans HX3.out
      have HE4 := Lib.hid (HE3.out.trans he4)
      clear d2 d3 dl
      have d2 := cell_of_blk (o := 2) hx4 rfl
      have dl := lt_of_heap' hx4
      clear hr4 he4 hx4
      go_wp2_with fail
      go_ret
      exact ⟨by rw [HM.out]; rfl, by rw [HM.out]; exact HR4.out, HE4.out⟩
    · have HM : Hid (numberA ts fin ⟨i, 0, av⟩ most = (t.n, ⟨i + 1, 0, av⟩)) := Lib.hid (by simp [numberA, isNumA, tokA, hx, hk, hm, Rs.next])
      have hm' : ¬ (most : Int) < t.n := by omega
      clear hk hi hp hh hr hx hm hn h1 hle
      go_enter Tryz.func17, Tryz.ntmps17
      go_wp2_with fail
      refine wp_region_grew (by kernel_rfl) (by as_aux_lemma => kernel_rfl) ?_
      repeat (go_big_quiet_step (fail))
      refine wpQuiet_nil ?_
      rintro _ ⟨y, rfl⟩
      have HP1 := Lib.hid (HP.out.below (grew_below w y))
      have HE1 := Lib.hid (Eff.of_below (p := p) (grew_below w y))
      have hz1 := (grew_below w y).size
      generalize World.grew w y = w1 at *
      clear c0 c1 c3 t0 t1 t2 t3 hlt hbl
      obtain ⟨A', c', hh, hr, hn, h1⟩ := HP1.out.is
      have HH := Lib.hid hh
      have HR := Lib.hid hr
      have HN := Lib.hid hn
      have H1 := Lib.hid h1
      have c1 := cell_of_blk (o := 1) hh rfl
      have f1 := frozen_of_blk (o := 1) hh
      have hpl1 := lt_of_heap' hh
      simp only at c1
      clear hh hr hn h1
      go_upto_region 5 with fail
      have he : Eff p w1 (w1.setCell ⟨p, 1, none⟩ (.int .i64 ((i : Int) + 1))) := (Eff.refl p w1).setCell ⟨p, 1, none⟩ (.inl rfl) _
      have HR2 : Hid (RR (w1.setCell ⟨p, 1, none⟩ (.int .i64 ((i : Int) + 1))) p fin ts ⟨i + 1, 0, av⟩) := Lib.hid (HP1.out.set (s' := ⟨i + 1, 0, av⟩) HI.out (row_setCell HH.out) HR.out HN.out H1.out he)
      have HE2 := Lib.hid (HE1.out.trans he)
      have hz2 : w1.heap.size ≤ (w1.setCell ⟨p, 1, none⟩ (.int .i64 ((i : Int) + 1))).heap.size := by simp
      generalize w1.setCell ⟨p, 1, none⟩ (.int .i64 ((i : Int) + 1)) = w2 at *
      clear he HH HR HN H1 c1 f1 hpl1 HP1 HE1
      obtain ⟨A', c', hh, hr, hn, h1⟩ := HR2.out.is
      obtain ⟨b, o, rfl, hbl, t0, t1, t2, t3⟩ := tok_cells hr HX.out
      have c0 := cell_of_blk (o := 0) hh rfl
      have c1 := cell_of_blk (o := 1) hh rfl
      have hpl2 := lt_of_heap' hh
      have k2 : ((i + 1 : Nat) : Int) = (i : Int) + 1 := by omega
      simp only at c0 c1
      rw [k2] at c1
      have kw : IntKind.i64.wrap (i : Int) = i := IntWalk.i64_in _ (by omega)
      clear hh hr hn h1 k2
      go_wp2_with fail
      go_region
      have hbd : Below w2.heap.size w2 (w2.alloc (.cells #[.int .i64 t.kind, .string ⟨t.text.toArray⟩, .int .i64 t.n, .int .i64 t.pos] 55 (0, 0))).drew := ((Below.refl _ _).alloc (Nat.le_refl _) _).drew
      have HR3 := Lib.hid (HR2.out.below hbd)
      have HX3 : Hid ((w2.alloc (.cells #[.int .i64 t.kind, .string ⟨t.text.toArray⟩, .int .i64 t.n, .int .i64 t.pos] 55 (0, 0))).drew.heap[w2.heap.size]? = some (.cells #[.int .i64 t.kind, .string ⟨t.text.toArray⟩, .int .i64 t.n, .int .i64 t.pos] 55 (0, 0))) := Lib.hid (heap_alloc_new w2 _)
      have HE3 := Lib.hid (HE2.out.trans (Eff.of_below hbd))
      have hpz := HR2.out.lt
      generalize hzz : w2.heap.size = b3 at *
      generalize (w2.alloc (.cells #[.int .i64 t.kind, .string ⟨t.text.toArray⟩, .int .i64 t.n, .int .i64 t.pos] 55 (0, 0))).drew = w3 at *
      clear hbd hzz c0 c1 t0 t1 t2 t3 hpl2 hbl
      have d2 := cell_of_blk (o := 2) HX3.out rfl
      have d3 := cell_of_blk (o := 3) HX3.out rfl
      have dl := lt_of_heap' HX3.out
      go_wp2_with fail
      go_ret
      exact ⟨by rw [HM.out]; rfl, by rw [HM.out]; exact HR3.out, HE3.out⟩
theorem one_some {ts : List Tok} {fin : Nat} {s : Rs} {ws : List (List UInt8)} {k : Nat} (h : ws.findIdx? (seesA ts s) = some k) : oneA ts fin s ws = (k, s.next) := by unfold oneA; rw [h]
theorem one_none {ts : List Tok} {fin : Nat} {s : Rs} {ws : List (List UInt8)} (h : ws.findIdx? (seesA ts s) = none) : oneA ts fin s ws = (0, failA ts fin s) := by unfold oneA; rw [h]
set_option maxRecDepth 20000 in
set_option maxHeartbeats 1000000 in
theorem rone_any (ws : List (List UInt8)) (W : Option Addr) (cw p fin : Nat) (ts : List Tok) (s : Rs) (w : World) (hp : RR w p fin ts s) (hw : RdS w W ws) (hl : ws.length ≤ 100) (hW : ∀ b o, W = some ⟨b, o, none⟩ → b ≠ p) :
    Calls Tryz.prog 20 #[.pointer (some ⟨p, 0, none⟩), .slice W ws.length cw] w fun r w' => r = .returned (.int .i64 ((oneA ts fin s ws).1 : Nat)) ∧ RR w' p fin ts (oneA ts fin s ws).2 ∧ Eff p w w' := by
  have HP := Lib.hid hp
  have HW := Lib.hid hw
  have HWW := Lib.hid hW
  clear hp hw hW
  go_enter Tryz.func20, Tryz.ntmps20
  go_wp2_with fail
  go_loopw [5] (fun v5 wr => ∃ k : Nat, k ≤ ws.length ∧ v5 = .int .i64 k ∧ RR wr p fin ts s ∧ Eff p w wr ∧ ∀ (j : Nat) x, ws[j]? = some x → j < k → seesA ts s x = false) (fun v5 _ => ws.length - (intOf v5).toNat)
  case atStart => exact ⟨0, Nat.zero_le _, rfl, HP.out, Eff.refl _ _, fun _ _ _ h => absurd h (by omega)⟩
  case round =>
    obtain ⟨k, hk, rfl, hr, he, hno⟩ := hrel
    have HNO := Lib.hid hno
    have HR := Lib.hid hr
    have HE := Lib.hid he
    clear hr he hno
    by_cases hlt : k < ws.length
    · obtain ⟨x, hx⟩ := get_of_lt hlt
      obtain ⟨b, o, rfl, hbs, c0⟩ := HW.out.item hx
      have hbp := HWW.out b o rfl
      have HX := Lib.hid hx
      have c0r := HE.out.cell c0 hbp
      have hbr : b < wr.heap.size := Nat.lt_of_lt_of_le hbs HE.out.size
      have hk1 : (k : Int) < ws.length := by omega
      have hk0 : (0 : Int) ≤ k := by omega
      clear hx c0 hbp
      cases hb : seesA ts s x with
      | true =>
        have HB := Lib.hid hb
        have HM := Lib.hid (one_some (fin := fin) (findIdx_some HX.out hb HNO.out))
        have HI : Hid (isA ts s x = s.next) := Lib.hid (by unfold isA; rw [hb]; rfl)
        clear hb
        go_wp2_with fail
        refine (ris_any x p fin ts s _ HR.out).mono ?_
        rintro r w1 ⟨rfl, hr1, he1⟩
        rw [HB.out]
        have HR1 := Lib.hid hr1
        have HE1 := Lib.hid (HE.out.trans he1)
        clear hr1 he1
        go_wp2_with fail
        go_ret
        exact ⟨by rw [HM.out]; rfl, by rw [HM.out, ← HI.out]; exact HR1.out, HE1.out⟩
      | false =>
        have HB := Lib.hid hb
        have HI : Hid (isA ts s x = s) := Lib.hid (by unfold isA; rw [hb]; rfl)
        have HNO2 : Hid (∀ (j : Nat) y, ws[j]? = some y → j < k + 1 → seesA ts s y = false) := Lib.hid (below_succ (p := seesA ts s) HX.out hb HNO.out)
        clear hb
        go_wp2_with fail
        refine (ris_any x p fin ts s _ HR.out).mono ?_
        rintro r w1 ⟨rfl, hr1, he1⟩
        rw [HB.out]
        have HR1 := Lib.hid hr1
        have HE1 := Lib.hid (HE.out.trans he1)
        clear hr1 he1
        go_wp2_with fail
        exact ⟨⟨k + 1, hlt, by go_num, by rw [← HI.out]; exact HR1.out, HE1.out, HNO2.out⟩, by simp [intOf]; omega⟩
    · have : k = ws.length := by omega
      subst this
      have hk1 : ¬ ((ws.length : Nat) : Int) < ws.length := by omega
      have HM := Lib.hid (one_none (fin := fin) (findIdx_none HNO.out))
      go_wp2_with fail
      refine (rfail_any p fin ts s _ HR.out).mono ?_
      rintro r w1 ⟨rfl, hr1, he1⟩
      have HR1 := Lib.hid hr1
      have HE1 := Lib.hid (HE.out.trans he1)
      clear hr1 he1
      go_wp2_with fail
      go_ret
      exact ⟨by rw [HM.out]; rfl, by rw [HM.out]; exact HR1.out, HE1.out⟩
end Go.Proofs.YtcekampdldkjlaaGreatDoor
