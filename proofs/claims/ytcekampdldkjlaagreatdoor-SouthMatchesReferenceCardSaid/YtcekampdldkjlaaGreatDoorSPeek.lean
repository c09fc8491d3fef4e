/- The next token; a failure at it. -/
import Derived.Test.YtcekampdldkjlaaGreatDoorNGrew
import Derived.StillTailTactics
import Derived.RegionTactic
import Derived.ChangeAlike
import Derived.BigRegion
set_option linter.unusedVariables false
set_option linter.unusedSimpArgs false
namespace Go.Proofs.YtcekampdldkjlaaGreatDoor
open Go.RowKit
def headT (fin : Nat) : List Tok → Tok
  | [] => ⟨0, [], 0, fin⟩
  | t :: _ => t
abbrev stopE (e a : Nat) : Ending := .panicked [{ v := .iface 41 (.agg #[.int .i64 e, .int .i64 a]), recovered := false }]
@[go_sem] theorem run_field_tok_kind (a b c d : Value) (W : World) : (Instr.field 55 (.agg #[a, b, c, d]) 0).run Tryz.prog W = .ok a W := by kernel_rfl
@[go_sem] theorem run_field_tok_text (a b c d : Value) (W : World) : (Instr.field 55 (.agg #[a, b, c, d]) 1).run Tryz.prog W = .ok b W := by kernel_rfl
@[go_sem] theorem run_field_tok_n (a b c d : Value) (W : World) : (Instr.field 55 (.agg #[a, b, c, d]) 2).run Tryz.prog W = .ok c W := by kernel_rfl
@[go_sem] theorem run_field_tok_at (a b c d : Value) (W : World) : (Instr.field 55 (.agg #[a, b, c, d]) 3).run Tryz.prog W = .ok d W := by kernel_rfl
abbrev zTok : Obj := .cells #[.int .i64 0, .string ⟨#[]⟩, .int .i64 0, .int .i64 0] 55 (0, 0)
/- a box of a token's that the call owns, behind a region -/
structure BoxT (w wg : World) (b : Nat) : Prop where
  c0 : wg.cell? ⟨b, 0, none⟩ = some (.int .i64 0)
  c1 : wg.cell? ⟨b, 1, none⟩ = some (.string ⟨#[]⟩)
  c2 : wg.cell? ⟨b, 2, none⟩ = some (.int .i64 0)
  c3 : wg.cell? ⟨b, 3, none⟩ = some (.int .i64 0)
  f0 : wg.frozen? ⟨b, 0, none⟩ = false
  f1 : wg.frozen? ⟨b, 1, none⟩ = false
  f2 : wg.frozen? ⟨b, 2, none⟩ = false
  f3 : wg.frozen? ⟨b, 3, none⟩ = false
  lt : b < wg.heap.size
theorem BoxT.mk' {w wg : World} {b : Nat} (h : wg.heap[b]? = some zTok) : BoxT w wg b :=
  ⟨cell_of_blk (o := 0) h rfl, cell_of_blk (o := 1) h rfl, cell_of_blk (o := 2) h rfl, cell_of_blk (o := 3) h rfl, frozen_of_blk (o := 0) h, frozen_of_blk (o := 1) h, frozen_of_blk (o := 2) h, frozen_of_blk (o := 3) h, lt_of_heap' h⟩
theorem below_set4 {B : Nat} {w w' : World} (h : Below B w w') {b : Nat} (hb : B ≤ b) (v0 v1 v2 v3 : Value) : Below B w ((((w'.setCell ⟨b, 0, none⟩ v0).setCell ⟨b, 1, none⟩ v1).setCell ⟨b, 2, none⟩ v2).setCell ⟨b, 3, none⟩ v3) :=
  (((h.setCell hb _).setCell hb _).setCell hb _).setCell hb _
theorem tok_nth {w : World} {A : Option Addr} {ts u l : List Tok} {t : Tok} (h : RdT w A ts) (hu : ts = u ++ t :: l) : ∃ b o, A = some ⟨b, o, none⟩ ∧ b < w.heap.size ∧ w.cell? ⟨b, o + u.length * 4, none⟩ = some (.int .i64 t.kind) ∧ w.cell? ⟨b, o + u.length * 4 + 1, none⟩ = some (vs t.text) ∧ w.cell? ⟨b, o + u.length * 4 + 2, none⟩ = some (.int .i64 t.n) ∧ w.cell? ⟨b, o + u.length * 4 + 3, none⟩ = some (.int .i64 t.pos) := by
  obtain ⟨b, o, hA, hb, hc⟩ := h (by rw [hu]; simp)
  have hx : ts[u.length]? = some t := by rw [hu, List.getElem?_append_right (Nat.le_refl _)]; simp
  exact ⟨b, o, hA, hb, hc _ _ hx 0 _ rfl, hc _ _ hx 1 _ rfl, hc _ _ hx 2 _ rfl, hc _ _ hx 3 _ rfl⟩
set_option maxRecDepth 20000 in
set_option maxHeartbeats 400000 in
theorem peek_nil (p fin : Nat) (ts : List Tok) (w : World) (hp : PS w p fin ts []) :
    Calls Tryz.prog 61 #[.pointer (some ⟨p, 0, none⟩)] w fun e w' => e = .returned (headT fin []).agg ∧ Below w.heap.size w w' := by
  obtain ⟨A, c, u, hh, hu, -⟩ := hp.is
  have hul : u.length = ts.length := by rw [hu]; simp
  rw [hul] at hh
  have c0 := cell_of_blk (o := 0) hh rfl
  have c1 := cell_of_blk (o := 1) hh rfl
  have hlt := lt_of_heap' hh
  have HH := Lib.hid hh
  clear hh hp hu hul
  go_enter Tryz.func61, Tryz.ntmps61
  go_wp2_with fail
  refine wp_region_grew (by kernel_rfl) (by as_aux_lemma => kernel_rfl) ?_
  repeat (go_big_quiet_step (fail))
  refine wpQuiet_nil ?_
  rintro _ ⟨y, rfl⟩
  have hb : Below w.heap.size w (World.grew (w.alloc zTok) y) := ((Below.refl _ _).alloc (Nat.le_refl _) _).trans ((grew_below _ y).mono (by simp))
  have hx : (World.grew (w.alloc zTok) y).heap[w.heap.size]? = some zTok := ((grew_below (w.alloc zTok) y).block _ (by simp)).trans (heap_alloc_new w _)
  generalize World.grew (w.alloc zTok) y = wg at hb hx ⊢
  obtain ⟨d0, d1, d2, d3, f0, f1, f2, f3, dl⟩ := BoxT.mk' (w := w) hx
  have c2 : wg.cell? ⟨p, 2, none⟩ = some (.int .i64 fin) := cell_of_blk (o := 2) ((hb.block _ hlt).trans HH.out) rfl
  have HB := Lib.hid hb
  clear hb hx c0 c1
  go_wp2_with fail
  refine bodyPost_ret (v := (headT fin []).agg) (by simp [results, Tryz.results61, go_sem, headT, *]) rfl ⟨rfl, ?_⟩
  exact below_set4 HB.out (Nat.le_refl _) _ _ _ _
set_option maxRecDepth 20000 in
set_option maxHeartbeats 800000 in
theorem peek_cons (p fin : Nat) (ts : List Tok) (t : Tok) (l : List Tok) (w : World) (hp : PS w p fin ts (t :: l)) :
    Calls Tryz.prog 61 #[.pointer (some ⟨p, 0, none⟩)] w fun e w' => e = .returned t.agg ∧ Below w.heap.size w w' := by
  obtain ⟨A, c, u, hh, hu, hr, -⟩ := hp.is
  obtain ⟨b, o, rfl, hbl, t0, t1, t2, t3⟩ := tok_nth hr hu
  have c0 := cell_of_blk (o := 0) hh rfl
  have c1 := cell_of_blk (o := 1) hh rfl
  have hlt := lt_of_heap' hh
  have HH := Lib.hid hh
  have hul : u.length < ts.length := by rw [hu]; simp
  have hz : ((u.length : Int) == ts.length) = false := by simp; omega
  have T0 := Lib.hid t0
  have T1 := Lib.hid t1
  have T2 := Lib.hid t2
  have T3 := Lib.hid t3
  clear hh hp hu hr t0 t1 t2 t3
  go_enter Tryz.func61, Tryz.ntmps61
  go_wp2_with fail
  refine wp_region_grew (by kernel_rfl) (by as_aux_lemma => kernel_rfl) ?_
  repeat (go_big_quiet_step (fail))
  refine wpQuiet_nil ?_
  rintro _ ⟨y, rfl⟩
  have hb : Below w.heap.size w (World.grew (w.alloc zTok) y) := ((Below.refl _ _).alloc (Nat.le_refl _) _).trans ((grew_below _ y).mono (by simp))
  have hx : (World.grew (w.alloc zTok) y).heap[w.heap.size]? = some zTok := ((grew_below (w.alloc zTok) y).block _ (by simp)).trans (heap_alloc_new w _)
  generalize World.grew (w.alloc zTok) y = wg at hb hx ⊢
  have hk := (hb.block _ hlt).trans HH.out
  have c0' : wg.cell? ⟨p, 0, none⟩ = some (.slice (some ⟨b, o, none⟩) ts.length c) := cell_of_blk (o := 0) hk rfl
  have c1' : wg.cell? ⟨p, 1, none⟩ = some (.int .i64 u.length) := cell_of_blk (o := 1) hk rfl
  have s0 := (hb.cell (p := ⟨b, o + u.length * 4, none⟩) hbl).trans T0.out
  have s1 := (hb.cell (p := ⟨b, o + u.length * 4 + 1, none⟩) hbl).trans T1.out
  have s2 := (hb.cell (p := ⟨b, o + u.length * 4 + 2, none⟩) hbl).trans T2.out
  have s3 := (hb.cell (p := ⟨b, o + u.length * 4 + 3, none⟩) hbl).trans T3.out
  have hltg := lt_of_heap' hk
  have hblg : b < wg.heap.size := Nat.lt_of_lt_of_le hbl hb.size
  have HB := Lib.hid hb
  have HX := Lib.hid hx
  have hi : (u.length : Int) < ts.length := by omega
  clear hb hx c0 c1 hk
  go_wp2_with fail
  go_still_tail 10, (by kernel_rfl)
  change wpList _ _ _ _ _ wg.drew
  have hx2 : wg.drew.heap[w.heap.size]? = some zTok := HX.out
  have HB2 : Hid (Below w.heap.size w wg.drew) := Lib.hid HB.out.drew
  generalize wg.drew = w2 at hx2 HB2 ⊢
  obtain ⟨d0, d1, d2, d3, f0, f1, f2, f3, dl⟩ := BoxT.mk' (w := w) hx2
  clear hx2 c0' c1' s0 s1 s2 s3 hltg hblg
  go_wp2_with fail
  refine bodyPost_ret (v := t.agg) (by simp [results, Tryz.results61, go_sem, *]) rfl ⟨rfl, ?_⟩
  exact below_set4 HB2.out (Nat.le_refl _) _ _ _ _
theorem peek_any (p fin : Nat) (ts l : List Tok) (w : World) (hp : PS w p fin ts l) :
    Calls Tryz.prog 61 #[.pointer (some ⟨p, 0, none⟩)] w fun e w' => e = .returned (headT fin l).agg ∧ Below w.heap.size w w' := by
  cases l with
  | nil => exact peek_nil p fin ts w hp
  | cons t r => exact peek_cons p fin ts t r w hp
set_option maxRecDepth 20000 in
theorem fail_any (p fin : Nat) (ts l : List Tok) (w : World) (hp : PS w p fin ts l) :
    Calls Tryz.prog 33 #[.pointer (some ⟨p, 0, none⟩)] w fun e w' => e = stopE (failC l) (posAt fin l) ∧ Below w.heap.size w w' := by
  have HP := Lib.hid hp
  obtain ⟨A, c, u, hh, hu, hr, -⟩ := hp.is
  have c0 := cell_of_blk (o := 0) hh rfl
  have c1 := cell_of_blk (o := 1) hh rfl
  have hlt := lt_of_heap' hh
  have HH := Lib.hid hh
  have HU := Lib.hid hu
  cases l with
  | nil =>
    have hz : ((u.length : Int) == ts.length) = true := by rw [hu]; simp
    clear hh hu hr hp
    go_enter Tryz.func33, Tryz.ntmps33
    go_wp2_with fail
    refine wp_region_grew (by kernel_rfl) (by as_aux_lemma => kernel_rfl) ?_
    repeat (go_big_quiet_step (fail))
    refine wpQuiet_nil ?_
    rintro _ ⟨y, rfl⟩
    have hb := grew_below w y
    generalize World.grew w y = wg at hb ⊢
    have hk := (hb.block _ hlt).trans HH.out
    have c2 : wg.cell? ⟨p, 2, none⟩ = some (.int .i64 fin) := cell_of_blk (o := 2) hk rfl
    have hlg := lt_of_heap' hk
    have HB := Lib.hid hb
    clear hb hk c0 c1
    go_wp2_with fail
    exact ⟨rfl, rfl, HB.out⟩
  | cons t r =>
    have hz : ((u.length : Int) == ts.length) = false := by rw [hu]; simp; omega
    clear hh hu hr hp
    go_enter Tryz.func33, Tryz.ntmps33
    go_wp2_with fail
    refine wp_region_grew (by kernel_rfl) (by as_aux_lemma => kernel_rfl) ?_
    repeat (go_big_quiet_step (fail))
    refine wpQuiet_nil ?_
    rintro _ ⟨y, rfl⟩
    have hb := grew_below w y
    have HP2 := Lib.hid (HP.out.below hb)
    have HB := Lib.hid hb
    clear hb c0 c1
    go_wp2_with (go_at_call 61; refine (peek_cons p fin ts t r _ HP2.out).mono ?_; rintro e w2 ⟨rfl, hb2⟩)
    exact ⟨rfl, rfl, HB.out.trans (hb2.mono HB.out.size)⟩
end Go.Proofs.YtcekampdldkjlaaGreatDoor
