/- Parse. -/
import Derived.Test.YtcekampdldkjlaaGreatDoorNLexW
import Derived.Test.YtcekampdldkjlaaGreatDoorSProv
import Derived.Recover
import Derived.Defers
set_option linter.unusedVariables false
set_option linter.unusedSimpArgs false
namespace Go.Proofs.YtcekampdldkjlaaGreatDoor
open Go.RowKit
@[go_sem] theorem blk_setCell1 {w : World} {k o : Nat} {n} {u : Value} : (w.setCell ⟨k + 1, o, n⟩ u).blk k = w.blk k := Below.heap_setCell _ _ _ _ (by simp)
@[go_sem] theorem blk_setCell2 {w : World} {k o : Nat} {n} {u : Value} : (w.setCell ⟨k + 1 + 1, o, n⟩ u).blk k = w.blk k := Below.heap_setCell _ _ _ _ (by simp; omega)
@[go_sem] theorem blk_drew {w : World} {k : Nat} : w.drew.blk k = w.blk k := rfl
abbrev zeroA : Array Value := #[.string ⟨#[]⟩, .int .i64 0, .int .i64 0, .string ⟨#[]⟩, .int .i64 0, .int .i64 0, .string ⟨#[]⟩, .int .i64 0, .int .i64 0, .slice none 0 0, .slice none 0 0, .int .i64 0, .string ⟨#[]⟩, .int .i64 0, .slice none 0 0, .int .i64 0, .string ⟨#[]⟩, .int .i64 0, .slice none 0 0, .int .i64 0, .string ⟨#[]⟩, .int .i64 0, .slice none 0 0]
theorem modify_same {α : Type} (xs : Array α) (b : Nat) (f : α → α) (h : ∀ x, xs[b]? = some x → f x = x) : xs.modify b f = xs := by
  apply Array.ext_getElem?
  intro i
  rw [Array.getElem?_modify]
  split
  · rename_i e
    subst e
    cases hx : xs[b]? with
    | none => rfl
    | some x => simp [h x hx]
  · rfl
theorem setRow_same {W : World} {b : Nat} {C : Array Value} {t : TypeId} {fr : Nat × Nat} (h : W.blk b = some (.cells C t fr)) : W.setRow b C = W := by
  unfold World.blk at h
  unfold World.setRow
  rw [modify_same W.heap b _ (by intro x hx; rw [h] at hx; cases hx; rfl)]
@[go_sem high] theorem storeProv_same {W : World} {b : Nat} (h : W.blk b = some (.cells zeroA 31 (0, 0))) : (storeProv ⟨b, 0, none⟩ (.agg zeroA)).run Tryz.prog W = .ok () W := by
  rw [storeProv_row, h, rowStore_cells _ _ _ _ _ (by rfl) (by rfl) (by rfl), setRow_same h]
/- the boxes of Parse's outcome -/
structure ResP (b : Nat) (W : World) (C : Array Value) (v3 v4 : Value) : Prop where
  r2 : W.blk b = some (.cells C 31 (0, 0))
  r3 : W.heap[b + 1]? = some (.cells #[v3] 32 (0, 0))
  r4 : W.heap[b + 1 + 1]? = some (.cells #[v4] 3 (0, 0))
/- w' is w with new blocks and the three boxes changed -/
structure Eff3 (b : Nat) (w w' : World) : Prop where
  os : w'.os = w.os
  tape : w'.tape = w.tape
  output : w'.output = w.output
  size : w.heap.size ≤ w'.heap.size
  block : ∀ k, k < w.heap.size → k ≠ b → k ≠ b + 1 → k ≠ b + 1 + 1 → w'.heap[k]? = w.heap[k]?
theorem pr_nil {ts : List Tok} {p : Prov} {r : List Tok} (h : pr ts = .ok (p, r)) : r = [] := by
  unfold pr endF at h
  cases hq : provF ts with
  | error e => rw [hq] at h; cases h
  | ok v =>
    obtain ⟨q, r2⟩ := v
    rw [hq] at h
    cases r2 with
    | nil => cases h; rfl
    | cons t r => cases h
theorem parseF_mk {l : List UInt8} {ts : List Tok} {p : Prov} (h : lexF l = .ok ts) (hp : pr ts = .ok (p, [])) : parseF l = .ok p := by
  unfold parseF
  rw [h]
  simp only [hp]
theorem parseF_err {l : List UInt8} {ts : List Tok} {e : Nat} {s : List Tok} (h : lexF l = .ok ts) (hp : pr ts = .error (e, s)) : parseF l = .error (e, (posAt l.length s : Nat)) := by
  unfold parseF
  rw [h]
  simp only [hp]
theorem catch_idle (b : Nat) (w : World) :
    CallsD Tryz.prog 9 #[.pointer (some ⟨b, 0, none⟩), .pointer (some ⟨b + 1, 0, none⟩), .pointer (some ⟨b + 1 + 1, 0, none⟩)] .returning w fun e u' w' => e = .returned (.tuple #[]) ∧ u' = .returning ∧ w' = w := by
  refine callsD_of_wpS Tryz.func9 rfl fun c₀ cs hu => ?_
  apply wpS_seq
  apply wpS_region
  simp [wpOpsS, go_sem, recoverD, hu, Tryz.ntmps9, Exit.thenS]
  apply wpS_seq
  apply wpS_region
  simp [wpOpsS, go_sem, Exit.thenS]
  refine wpS_cond (t := false) (by simp [Act.eval, Array.replicate]) ?_
  simp only [Bool.false_eq_true, if_false]
  refine wpS_of_wp (wp_skip ?_)
  cases c₀
  simp_all [bodyPostS, results, Tryz.results9]
set_option maxRecDepth 100000 in
set_option maxHeartbeats 1000000 in
theorem catch_panic (b e a : Nat) (older : List PanicEntry) (w : World) (v3 v4 : Value) (hr : ResP b w zeroA v3 v4) :
    CallsD Tryz.prog 9 #[.pointer (some ⟨b, 0, none⟩), .pointer (some ⟨b + 1, 0, none⟩), .pointer (some ⟨b + 1 + 1, 0, none⟩)] (.panicking ({ v := .iface 41 (.agg #[.int .i64 e, .int .i64 a]), recovered := false } :: older)) w fun en u' w' =>
      en = .returned (.tuple #[]) ∧ u' = .panicking ({ v := .iface 41 (.agg #[.int .i64 e, .int .i64 a]), recovered := true } :: older) ∧ Eff3 b w w' ∧ ResP b w' zeroA (.int .i64 e) (.int .i64 a) := by
  refine callsD_of_wpS Tryz.func9 rfl fun c₀ cs hu => ?_
  apply wpS_seq
  apply wpS_region
  simp [wpOpsS, go_sem, recoverD, hu, Tryz.ntmps9, Exit.thenS]
  apply wpS_seq
  apply wpS_region
  simp [wpOpsS, go_sem, Exit.thenS]
  refine wpS_cond (t := true) (by simp [Act.eval, Array.replicate]) ?_
  simp only [if_true]
  refine wpS_of_wp ?_
  simp only [Array.replicate_succ, Array.replicate_zero, List.push_toArray, List.append_toArray, List.nil_append, List.cons_append, List.setIfInBounds_toArray, List.set_cons_succ, List.set_cons_zero]
  have hta : ∀ (v : Value) (w : World), (Instr.typeAssert (.iface 41 v) 20 41 false).run Tryz.prog w = .ok v w := fun v w => by kernel_rfl
  have h2 := hr.r2
  have c3 : w.cell? ⟨b + 1, 0, none⟩ = some v3 := cell_of_blk (o := 0) hr.r3 rfl
  have c4 : w.cell? ⟨b + 1 + 1, 0, none⟩ = some v4 := cell_of_blk (o := 0) hr.r4 rfl
  have f3 := frozen_of_blk (o := 0) hr.r3
  have f4 := frozen_of_blk (o := 0) hr.r4
  have l4 := lt_of_heap' hr.r4
  have lb : b < w.heap.size := by omega
  have lb1 : b + 1 < w.heap.size := by omega
  have HR := Lib.hid hr
  clear hr
  go_wp2_with fail
  go_region
  all_goals go_wp2_with fail
  have hset : ∀ k, k ≠ b + 1 → k ≠ b + 1 + 1 → ((w.setCell ⟨b + 1, 0, none⟩ (.int .i64 e)).setCell ⟨b + 1 + 1, 0, none⟩ (.int .i64 a)).heap[k]? = w.heap[k]? :=
    fun k h1 h2 => (Below.heap_setCell _ _ _ _ (by simpa using h2)).trans (Below.heap_setCell _ _ _ _ (by simpa using h1))
  have hal : ∀ k o, k < w.heap.size → (((w.setCell ⟨b + 1, 0, none⟩ (.int .i64 e)).setCell ⟨b + 1 + 1, 0, none⟩ (.int .i64 a)).alloc o).drew.heap[k]? = ((w.setCell ⟨b + 1, 0, none⟩ (.int .i64 e)).setCell ⟨b + 1 + 1, 0, none⟩ (.int .i64 a)).heap[k]? := fun k o hk => Below.heap_alloc _ _ _ (by simpa using hk)
  refine ⟨rfl, _, rfl, _, results_none Tryz.results9 _ _ _, rfl, rfl, ⟨rfl, rfl, rfl, by show _ ≤ (World.alloc _ _).heap.size; simp, fun k hk h1 h2 h3 => (hal k _ hk).trans (hset k h2 h3)⟩, ⟨(hal b _ lb).trans ((hset b (by omega) (by omega)).trans HR.out.r2), (hal _ _ lb1).trans ?_, (hal _ _ l4).trans ?_⟩⟩
  · exact (Below.heap_setCell _ _ _ _ (by simp)).trans (row_setCell HR.out.r3)
  · exact row_setCell ((Below.heap_setCell _ _ _ _ (by simp)).trans HR.out.r4)
theorem ResP.set34 {b : Nat} {W : World} {C : Array Value} {v3 v4 : Value} (h : ResP b W C v3 v4) (u3 u4 : Value) : ResP b ((W.setCell ⟨b + 1, 0, none⟩ u3).setCell ⟨b + 1 + 1, 0, none⟩ u4) C u3 u4 := by
  have e3 := row_setCell (o := 0) (u := u3) h.r3
  have e4 := (Below.heap_setCell W ⟨b + 1, 0, none⟩ u3 (b + 1 + 1) (by simp)).trans h.r4
  refine ⟨?_, (Below.heap_setCell _ _ _ _ (by simp)).trans e3, row_setCell e4⟩
  show World.blk _ b = _
  rw [blk_setCell2, blk_setCell1]
  exact h.r2
theorem ResP.drew {b : Nat} {W : World} {C : Array Value} {v3 v4 : Value} (h : ResP b W C v3 v4) : ResP b W.drew C v3 v4 := ⟨h.r2, h.r3, h.r4⟩
theorem below_set34 {b0 b : Nat} {w W : World} (h : Below b0 w W) (hb : b0 ≤ b) (u3 u4 : Value) : Below b0 w ((W.setCell ⟨b + 1, 0, none⟩ u3).setCell ⟨b + 1 + 1, 0, none⟩ u4) := (h.setCell (by simp; omega) _).setCell (by simp; omega) _
theorem ResP.row {b : Nat} {W : World} {C D : Array Value} {v3 v4 : Value} (h : ResP b W C v3 v4) : ResP b (W.setRow b D) D v3 v4 := by
  have ho : Off b W (W.setRow b D) := Off.row _ _
  exact ⟨blk_setRow_at h.r2, (ho.block _ (by omega)).trans h.r3, (ho.block _ (by omega)).trans h.r4⟩
theorem tcs_len (fm : Bool) (op : Nat) (name : List UInt8) (cmp n : Nat) (s : Value) : (tcs fm op name cmp n s).length = tsz fm := by cases fm <;> rfl
theorem tree_cells {fm : Bool} {S : Nat → Prop} {W : World} {cs : List Value} {t : Tree} (h : RdTree fm S W cs t) : cs.length = tsz fm ∧ allOne cs = true := by
  refine ⟨h.len, ?_⟩
  obtain ⟨op, name, cmp, n, ks⟩ := t
  obtain ⟨A, cap, rfl, -, -⟩ := h
  cases fm <;> rfl
theorem allOne_cat : ∀ {a b : List Value}, allOne a = true → allOne b = true → allOne (a ++ b) = true
  | [], b, _, hb => hb
  | x :: a, b, ha, hb => by
    simp only [allOne, Bool.and_eq_true, List.cons_append] at ha ⊢
    exact ⟨ha.1, allOne_cat ha.2 hb⟩
theorem prov_cells {base : Nat} {W : World} {cs : List Value} {P : Prov} (h : RdProv base W cs P) : cs.length = 23 ∧ allOne cs = true := by
  obtain ⟨cc, A, cap, cb, cf, ca, rfl, -, h1, -, h2, h3, h4⟩ := h
  obtain ⟨a1, b1⟩ := tree_cells h1
  obtain ⟨a2, b2⟩ := tree_cells h2
  obtain ⟨a3, b3⟩ := tree_cells h3
  obtain ⟨a4, b4⟩ := tree_cells h4
  have e5 : tsz true = 5 := rfl
  have e4 : tsz false = 4 := rfl
  constructor
  · simp [a1, a2, a3, a4, e5, e4]
  · refine allOne_cat rfl (allOne_cat b1 ?_)
    show allOne (_ ++ _) = true
    exact allOne_cat b2 (allOne_cat b3 b4)
set_option maxRecDepth 20000 in
theorem resultsP {X : World} {b : Nat} {C : Array Value} {v3 v4 : Value} {tmps : Array Value} (hr : ResP b X C v3 v4) (hs : C.size = 23) (h2 : tmps.getD 2 undef = .pointer (some ⟨b, 0, none⟩)) (h3 : tmps.getD 3 undef = .pointer (some ⟨b + 1, 0, none⟩)) (h4 : tmps.getD 4 undef = .pointer (some ⟨b + 1 + 1, 0, none⟩)) :
    (results Tryz.f5 tmps).run Tryz.prog X = .ok (.tuple #[.agg C, v3, v4]) X := by
  have c3 : X.cell? ⟨b + 1, 0, none⟩ = some v3 := cell_of_blk (o := 0) hr.r3 rfl
  have c4 : X.cell? ⟨b + 1 + 1, 0, none⟩ = some v4 := cell_of_blk (o := 0) hr.r4 rfl
  have h2' : tmps[2]?.getD undef = .pointer (some ⟨b, 0, none⟩) := by simpa using h2
  have h3' : tmps[3]?.getD undef = .pointer (some ⟨b + 1, 0, none⟩) := by simpa using h3
  have h4' : tmps[4]?.getD undef = .pointer (some ⟨b + 1 + 1, 0, none⟩) := by simpa using h4
  have hl : (loadVar 31 ⟨b, 0, none⟩).run Tryz.prog X = .ok (.agg C) X := run_loadVar_row X b 31 31 C (0, 0) _ hr.r2 Tryz.underlying31 rfl (by rw [hs]; kernel_rfl)
  have hl3 : (loadVar 32 ⟨b + 1, 0, none⟩).run Tryz.prog X = .ok v3 X := by simp [go_sem, c3]
  have hl4 : (loadVar 3 ⟨b + 1 + 1, 0, none⟩).run Tryz.prog X = .ok v4 X := by simp [go_sem, c4]
  clear hr hs h2 h3 h4
  simp [results, Tryz.results5, h2', h3', h4', asAddr, hl, hl3, hl4]
abbrev ParsePost (l : List UInt8) (w : World) (e : Ending) (w' : World) : Prop := Below w.heap.size w w' ∧ (match parseF l with
  | .ok p => ∃ cs : List Value, e = .returned (.tuple #[.agg cs.toArray, .int .i64 0, .int .i64 0]) ∧ RdProv w.heap.size w' cs p
  | .error (er, a) => e = .returned (.tuple #[.agg zeroA, .int .i64 er, .int .i64 a]))
theorem below_eff3 {w X Y : World} (h : Below w.heap.size w X) (k : Eff3 w.heap.size X Y) : Below w.heap.size w Y :=
  ⟨k.os.trans h.os, k.tape.trans h.tape, k.output.trans h.output, Nat.le_trans h.size k.size, fun i hi => (k.block i (Nat.lt_of_lt_of_le hi h.size) (by omega) (by omega) (by omega)).trans (h.block i hi)⟩
set_option maxRecDepth 100000 in
set_option maxHeartbeats 4000000 in
theorem parse_any (l : List UInt8) (w : World) (m : Int) (hm : w.cell? ⟨2, 0, none⟩ = some (.int .i64 m)) :
    Calls Tryz.prog 5 #[vs l] w (ParsePost l w) := by
  have hmf : ∀ (fn : Fn) (first cap : Array Value) (w : World), (Instr.makeFunc fn first cap).run Tryz.prog w = .ok (.func fn first cap) w := fun _ _ _ _ => rfl
  have hml := World.block_lt_of_cell? _ _ hm
  have HM := Lib.hid hm
  clear hm
  cases hlx : lexF l with
  | error v =>
    obtain ⟨er, a⟩ := v
    have HNE := Lib.hid (lexF_err_ne hlx)
    have hpf : parseF l = .error (er, a) := by unfold parseF; rw [hlx]
    have HPF := Lib.hid hpf
    have HLX := Lib.hid hlx
    clear hlx hpf
    go_enter_defers Tryz.func5, Tryz.ntmps5
    go_wp2_with fail
    refine (lex_any l _).mono ?_
    rintro e w1 ⟨hb1, hres⟩
    rw [HLX.out] at hres
    obtain rfl := hres
    have hrp : ResP w.heap.size w1 zeroA (.int .i64 0) (.int .i64 0) := ⟨(hb1.block _ (by simp; omega)).trans (old_at (old_at (alloc_at rfl))), (hb1.block _ (by simp)).trans (old_at (alloc_at (by simp))), (hb1.block _ (by simp)).trans (alloc_at (by simp))⟩
    have hbw : Below w.heap.size w w1 := ((((Below.refl _ _).alloc (Nat.le_refl _) _).alloc (by simp) _).alloc (by simp; omega) _).trans (hb1.mono (by simp; omega))
    have h2 := hrp.r2
    have c3 : w1.cell? ⟨w.heap.size + 1, 0, none⟩ = some (.int .i64 0) := cell_of_blk (o := 0) hrp.r3 rfl
    have c4 : w1.cell? ⟨w.heap.size + 1 + 1, 0, none⟩ = some (.int .i64 0) := cell_of_blk (o := 0) hrp.r4 rfl
    have f3 := frozen_of_blk (o := 0) hrp.r3
    have f4 := frozen_of_blk (o := 0) hrp.r4
    have l4 := lt_of_heap' hrp.r4
    have z : ((er : Int) != 0) = true := by have := HNE.out; simp; omega
    have HRP := Lib.hid hrp
    have HBW := Lib.hid hbw
    clear hb1 hrp hbw
    go_wp2_with fail
    go_region
    all_goals go_wp2_with fail
    have hr4 : ResP w.heap.size (((((w1.setCell ⟨w.heap.size + 1, 0, none⟩ (.int .i64 er)).setCell ⟨w.heap.size + 1 + 1, 0, none⟩ (.int .i64 a)).setCell ⟨w.heap.size + 1, 0, none⟩ (.int .i64 er)).setCell ⟨w.heap.size + 1 + 1, 0, none⟩ (.int .i64 a)).drew) zeroA (.int .i64 er) (.int .i64 a) := ((HRP.out.set34 (.int .i64 er) (.int .i64 a)).set34 (.int .i64 er) (.int .i64 a)).drew
    refine ⟨_, resultsP hr4 rfl rfl rfl rfl, (below_set34 (below_set34 HBW.out (Nat.le_refl _) _ _) (Nat.le_refl _) _ _).drew, ?_⟩
    rw [HPF.out]
  | ok ts =>
    have HLX := Lib.hid hlx
    clear hlx
    go_enter_defers Tryz.func5, Tryz.ntmps5
    go_wp2_with fail
    refine (lex_any l _).mono ?_
    rintro e w1 ⟨hb1, hres⟩
    rw [HLX.out] at hres
    obtain ⟨A, c, rfl, hrd, hA, hc1, hc2⟩ := hres
    have hrp : ResP w.heap.size w1 zeroA (.int .i64 0) (.int .i64 0) := ⟨(hb1.block _ (by simp; omega)).trans (old_at (old_at (alloc_at rfl))), (hb1.block _ (by simp)).trans (old_at (alloc_at (by simp))), (hb1.block _ (by simp)).trans (alloc_at (by simp))⟩
    have hbw : Below w.heap.size w w1 := ((((Below.refl _ _).alloc (Nat.le_refl _) _).alloc (by simp) _).alloc (by simp; omega) _).trans (hb1.mono (by simp; omega))
    have l4 := lt_of_heap' hrp.r4
    have HRP := Lib.hid hrp
    have HBW := Lib.hid hbw
    have h2 := hrp.r2
    have c3 : w1.cell? ⟨w.heap.size + 1, 0, none⟩ = some (.int .i64 0) := cell_of_blk (o := 0) hrp.r3 rfl
    have c4 : w1.cell? ⟨w.heap.size + 1 + 1, 0, none⟩ = some (.int .i64 0) := cell_of_blk (o := 0) hrp.r4 rfl
    have f3 := frozen_of_blk (o := 0) hrp.r3
    have f4 := frozen_of_blk (o := 0) hrp.r4
    have HRP0 := Lib.hid (hrp.set34 (.int .i64 0) (.int .i64 0))
    have HBW0 := Lib.hid (below_set34 hbw (Nat.le_refl _) (.int .i64 0) (.int .i64 0))
    have hz0 : ((w1.setCell ⟨w.heap.size + 1, 0, none⟩ (.int .i64 0)).setCell ⟨w.heap.size + 1 + 1, 0, none⟩ (.int .i64 0)).heap.size = w1.heap.size := by simp
    have HRD0 : Hid (RdT ((w1.setCell ⟨w.heap.size + 1, 0, none⟩ (.int .i64 0)).setCell ⟨w.heap.size + 1 + 1, 0, none⟩ (.int .i64 0)) A ts) := Lib.hid (Sl.keep hrd (by rw [hz0]; exact Nat.le_refl _) (fun g o e hlt => by
      have := (hA g o e).1
      simp at this
      exact (Below.heap_setCell _ _ _ _ (by simp; omega)).trans (Below.heap_setCell _ _ _ _ (by simp; omega))))
    clear hb1 hrp hbw hrd HRP HBW
    go_upto_region 2 with fail
    have HA : Hid (∀ b o, A = some ⟨b, o, none⟩ → b < ((w1.setCell ⟨w.heap.size + 1, 0, none⟩ (.int .i64 0)).setCell ⟨w.heap.size + 1 + 1, 0, none⟩ (.int .i64 0)).heap.size) := Lib.hid (fun b o e => by rw [hz0]; exact (hA b o e).2)
    clear h2 c3 c4 f3 f4 hA l4 hz0
    generalize ((w1.setCell ⟨w.heap.size + 1, 0, none⟩ (.int .i64 0)).setCell ⟨w.heap.size + 1 + 1, 0, none⟩ (.int .i64 0)) = w1 at HRP0 HBW0 HRD0 HA ⊢
    have HRP := HRP0
    have HBW := HBW0
    have HRD := HRD0
    clear HRP0 HBW0 HRD0
    have l4 := lt_of_heap' HRP.out.r4
    have c3 : w1.cell? ⟨w.heap.size + 1, 0, none⟩ = some (.int .i64 0) := cell_of_blk (o := 0) HRP.out.r3 rfl
    go_wp2_with fail
    have hlen := (lexF_ok HLX.out).2.1
    have hll := (lexF_ok HLX.out).2.2
    have hwl := HBW.out.size
    have HPS : Hid (PS (w1.alloc (.cells #[.slice A ts.length c, .int .i64 0, .int .i64 l.length] 44)) w1.heap.size l.length ts ts) := Lib.hid
      ⟨⟨A, c, [], alloc_at rfl, rfl, HRD.out.below ((Below.refl _ _).alloc (Nat.le_refl _) _), fun b o e => HA.out b o e, hc1, hc2⟩, fun t ht => (by obtain ⟨a1, a2, a3, a4, a5⟩ := tok_fit HLX.out t ht; exact ⟨a1, a2, a3, a4, a5⟩), hlen,
        ⟨m, cell_of_heap ((Below.heap_alloc _ _ _ (by omega)).trans (HBW.out.block _ hml)) 0 |>.trans HM.out⟩, by omega, by omega⟩
    refine calls_out (prov_any w1.heap.size l.length ts ts _ HPS.out) ?_ ?_
    case refine_2 =>
      intro er s w2 hq he2
      have hpf : parseF l = .error (er, (posAt l.length s : Nat)) := parseF_err HLX.out hq
      have hrp2 : ResP w.heap.size w2 zeroA (.int .i64 0) (.int .i64 0) := ⟨(he2.block _ (by simp; omega) (by omega)).trans (old_at HRP.out.r2), (he2.block _ (by simp; omega) (by omega)).trans (old_at HRP.out.r3), (he2.block _ (by simp; omega) (by omega)).trans (old_at HRP.out.r4)⟩
      have hbw2 : Below w.heap.size w w2 := ⟨he2.os.trans HBW.out.os, he2.tape.trans HBW.out.tape, he2.output.trans HBW.out.output, by have := he2.size; simp at this; omega, fun k hk => (he2.block k (by simp; omega) (by omega)).trans ((Below.heap_alloc _ _ _ (by omega)).trans (HBW.out.block k hk))⟩
      have HPF := Lib.hid hpf
      have HRP2 := Lib.hid hrp2
      have HBW2 := Lib.hid hbw2
      clear hq hpf hrp2 hbw2 he2
      go_wp2_with fail
      refine leaves_cons (f := 9) (args := #[.pointer (some ⟨w.heap.size, 0, none⟩), .pointer (some ⟨w.heap.size + 1, 0, none⟩), .pointer (some ⟨w.heap.size + 1 + 1, 0, none⟩)]) (by simp) (by simp [go_sem]) ?_
      refine (catch_panic w.heap.size er (posAt l.length s) [] _ _ _ HRP2.out).mono ?_
      rintro e u' w'' ⟨rfl, rfl, he3, hr3⟩
      show Leaves _ _ _ _ [] .returning w''
      refine ⟨_, resultsP hr3 rfl rfl rfl rfl, below_eff3 HBW2.out he3, ?_⟩
      rw [HPF.out]
    case refine_1 =>
      intro P r v w2 hq hv hp2 he2
      obtain ⟨cs, rfl, hrdp⟩ := hv
      obtain rfl := pr_nil (ts := ts) hq
      have hpf : parseF l = .ok P := parseF_mk HLX.out hq
      have hrp2 : ResP w.heap.size w2 zeroA (.int .i64 0) (.int .i64 0) := ⟨(he2.block _ (by simp; omega) (by omega)).trans (old_at HRP.out.r2), (he2.block _ (by simp; omega) (by omega)).trans (old_at HRP.out.r3), (he2.block _ (by simp; omega) (by omega)).trans (old_at HRP.out.r4)⟩
      have hbw2 : Below w.heap.size w w2 := ⟨he2.os.trans HBW.out.os, he2.tape.trans HBW.out.tape, he2.output.trans HBW.out.output, by have := he2.size; simp at this; omega, fun k hk => (he2.block k (by simp; omega) (by omega)).trans ((Below.heap_alloc _ _ _ (by omega)).trans (HBW.out.block k hk))⟩
      have hb2 := hrp2.r2
      have c3 : w2.cell? ⟨w.heap.size + 1, 0, none⟩ = some (.int .i64 0) := cell_of_blk (o := 0) hrp2.r3 rfl
      have c4 : w2.cell? ⟨w.heap.size + 1 + 1, 0, none⟩ = some (.int .i64 0) := cell_of_blk (o := 0) hrp2.r4 rfl
      have f3 := frozen_of_blk (o := 0) hrp2.r3
      have f4 := frozen_of_blk (o := 0) hrp2.r4
      have l42 := lt_of_heap' hrp2.r4
      obtain ⟨hcl, hc1⟩ := prov_cells hrdp
      have HCL := Lib.hid hcl
      have HC1 := Lib.hid hc1
      have HPF := Lib.hid hpf
      have HRP2 := Lib.hid hrp2
      have HBW2 := Lib.hid hbw2
      have HRDP := Lib.hid hrdp
      clear hq hpf hrp2 hbw2 he2 hcl hc1 hrdp hp2
      go_wp2_with fail
      rw [rowStore_cells _ _ cs zeroA _ (by rfl) (by rw [List.size_toArray, HCL.out]) HC1.out]
      have hrp4 := (HRP2.out.row (D := cs.toArray)).set34 (.int .i64 0) (.int .i64 0)
      have ho : Off w.heap.size w2 (w2.setRow w.heap.size cs.toArray) := Off.row _ _
      have d3 : (w2.setRow w.heap.size cs.toArray).cell? ⟨w.heap.size + 1, 0, none⟩ = some (.int .i64 0) := cell_of_blk (o := 0) (HRP2.out.row (D := cs.toArray)).r3 rfl
      have d4 : (w2.setRow w.heap.size cs.toArray).cell? ⟨w.heap.size + 1 + 1, 0, none⟩ = some (.int .i64 0) := cell_of_blk (o := 0) (HRP2.out.row (D := cs.toArray)).r4 rfl
      have g3 := frozen_of_blk (o := 0) (HRP2.out.row (D := cs.toArray)).r3
      have g4 := frozen_of_blk (o := 0) (HRP2.out.row (D := cs.toArray)).r4
      have l43 := lt_of_heap' (HRP2.out.row (D := cs.toArray)).r4
      have hrd4 : RdProv w.heap.size (((w2.setRow w.heap.size cs.toArray).setCell ⟨w.heap.size + 1, 0, none⟩ (.int .i64 0)).setCell ⟨w.heap.size + 1 + 1, 0, none⟩ (.int .i64 0)) cs P :=
        HRDP.out.weak (by simp; omega) (by have := ho.size; simp [this]) (fun k hk _ => (Below.heap_setCell _ _ _ _ (by simp at hk ⊢; omega)).trans ((Below.heap_setCell _ _ _ _ (by simp at hk ⊢; omega)).trans (ho.block k (by simp at hk; omega))))
      have hbw4 := below_set34 (b0 := w.heap.size) (b := w.heap.size) (w := w) (W := w2.setRow w.heap.size cs.toArray) (below_setRow HBW2.out (Nat.le_refl _) _) (Nat.le_refl _) (.int .i64 0) (.int .i64 0)
      have HRP4 := Lib.hid hrp4
      have HRD4 := Lib.hid hrd4
      have HBW4 := Lib.hid hbw4
      clear hrp4 hrd4 hbw4 ho
      go_wp2_with fail
      refine leaves_cons (f := 9) (args := #[.pointer (some ⟨w.heap.size, 0, none⟩), .pointer (some ⟨w.heap.size + 1, 0, none⟩), .pointer (some ⟨w.heap.size + 1 + 1, 0, none⟩)]) (by simp) (by simp [go_sem]) ?_
      refine (catch_idle w.heap.size _).mono ?_
      rintro e u' w'' ⟨rfl, rfl, rfl⟩
      show Leaves _ _ _ _ [] .returning _
      refine ⟨_, resultsP HRP4.out (by rw [List.size_toArray, HCL.out]) rfl rfl rfl, HBW4.out, ?_⟩
      rw [HPF.out]
      exact ⟨cs, rfl, HRD4.out⟩
end Go.Proofs.YtcekampdldkjlaaGreatDoor
