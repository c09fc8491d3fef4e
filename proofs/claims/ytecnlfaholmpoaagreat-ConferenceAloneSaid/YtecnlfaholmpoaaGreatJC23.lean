/- How many of a page are open. A clause is proper. -/
import Derived.Test.YtecnlfaholmpoaaGreatJC22
import Derived.Test.YtecnlfaholmpoaaGreatJC13
import Derived.Test.YtecnlfaholmpoaaGreatJC14
import Derived.Maps.RangeWalk
import Derived.Deep.LoopGhost
set_option linter.unusedVariables false
set_option linter.unusedSimpArgs false
set_option maxRecDepth 20000
set_option maxHeartbeats 4000000
namespace Go.Proofs.YtecnlfaholmpoaaGreat
open Go.RowKit
abbrev kvOf (c : Clause) : Value × Value := (c.id.agg, c.agg)
abbrev CMap (w : World) (b : Nat) (pg : List Clause) : Prop := KMap Tryz.prog 45 w b (pg.map kvOf)
theorem wpList_next_run {P : Program} {ops : Array Oper} {rest : List Oper} {o : Oper} {a : Act} {w w' : World} {Q : Exit → Act → World → Prop} (hgd : o.guard = none) (x : Operand) (hop : o.op = Op.next x false) (ty : TypeId) (ht : o.type = ty) (v r : Value) (hx : a.eval x = v)
 (hrun : (Instr.next v false ty).run P w = .ok r w') (h : wpList P ops Q rest (a.put o.dst r) w') : wpList P ops Q (o :: rest) a w := by
 subst ht
 refine wpList_plain hgd fun K hK => ?_
 unfold Oper.wp
 simp [execOp, hop, hx, hrun, Result.andThen]
 exact hK _ _ h
theorem perm_one {α β : Type} {f : α → β} {l : List α} {p : β} {r : List β} (h : (l.map f).Perm (p :: r)) : ∃ c l', l.Perm (c :: l') ∧ p = f c ∧ r.Perm (l'.map f) := by
 have hp : p ∈ l.map f := h.mem_iff.2 (by simp)
 obtain ⟨c, hc, rfl⟩ := List.mem_map.1 hp
 obtain ⟨u, v, rfl⟩ := List.append_of_mem hc
 refine ⟨c, u ++ v, List.perm_middle, rfl, ?_⟩
 have h2 : ((u ++ c :: v).map f).Perm (f c :: (u ++ v).map f) := by
  rw [List.map_append, List.map_cons, List.map_append]
  exact List.perm_middle
 exact (h.symm.trans h2).cons_inv
theorem openN_perm {l r : List Clause} (h : l.Perm r) : openN l = openN r := h.countP_eq _
theorem openN_cons (c : Clause) (l : List Clause) : openN (c :: l) = openN l + (if c.gone then 0 else 1) := by
 unfold openN
 rw [List.countP_cons]
 cases c.gone <;> simp
theorem below_setBlock {B : Nat} {a w w1 : World} {b : Nat} {o : Obj} (h : Below B a w) (hw : w1 = w ∨ w1 = w.drew) (hb : B ≤ b) : Below B a (Go.ChangeMaps.setBlock w1 b o) := by
 have h1 : Below B a w1 := by
  rcases hw with rfl | rfl
  · exact h
  · exact h.drew
 refine ⟨h1.os, h1.tape, h1.output, by simpa [Go.ChangeMaps.setBlock] using h1.size, fun k hk => ?_⟩
 have : (Go.ChangeMaps.setBlock w1 b o).heap[k]? = w1.heap[k]? := by
  simp only [Go.ChangeMaps.setBlock, Array.getElem?_setIfInBounds]
  rw [if_neg (by omega)]
 exact this.trans (h1.block k hk)
theorem openm_any (pg : List Clause) (b : Nat) (w : World) (hn : pg.length ≤ 100000) (h : CMap w b pg) : Calls Tryz.prog 70 #[.map (some b)] w fun e w' => e = .returned (.int .i64 (openN pg)) ∧ Below w.heap.size w w' := by
 obtain ⟨o, hr, hit⟩ := h.range (t := 100) (e := 51) Tryz.underlying100
 have HH := Lib.hid h; clear h
 have HIT := Lib.hid hit; clear hit
 go_enter Tryz.func70, Tryz.ntmps70
 go_wp2_with fail
 go_loopg [3] (pg.length) (fun g v wr => ∃ (lc : List Clause) (left : List (Value × Value)), KIter Tryz.prog 45 wr b w.heap.size (pg.map kvOf) left ∧ (lc.map kvOf).Perm left ∧ lc.length ≤ g ∧ v = .int .i64 ((openN pg : Int) - openN lc) ∧ openN lc ≤ openN pg ∧ Below w.heap.size w wr)
 case atStart => exact ⟨pg, _, HIT.out, List.Perm.refl _, Nat.le_refl _, by simp, Nat.le_refl _, (Below.refl _ _).alloc (Nat.le_refl _) _⟩
 case round =>
  obtain ⟨lc, left, hit, hperm, hg, rfl, hop, hb⟩ := hrel
  have HB := Lib.hid hb; clear hb
  have HP := Lib.hid hperm; clear hperm
  rcases hit.next 0 with ⟨hl, hrun⟩ | ⟨p, left', w1, o', hw1, hp2, hrun, hit', hent⟩
  · have HI := Lib.hid hit; clear hit
    subst hl
    have h0 : lc = [] := by simpa using HP.out.eq_nil
    subst h0
    clear hr
    have HR := Lib.hid hrun; clear hrun
    go_wp2_with (at_next; refine wpList_next_run rfl (.tmp 7) rfl 0 rfl _ _ rfl HR.out ?_)
    go_ret
    exact ⟨by simp [openN], HB.out⟩
  · clear hit
    obtain ⟨c, l', hlc, rfl, hr'⟩ := perm_one (HP.out.trans hp2)
    have he := hent _ rfl rfl
    have hb' := below_setBlock (o := o') HB.out hw1 (Nat.le_refl _)
    generalize hW : Go.ChangeMaps.setBlock w1 w.heap.size o' = w2 at hrun hit' he hb'
    clear hW hent
    have hlen := hlc.length_eq
    have hco := openN_perm hlc
    rw [openN_cons] at hco
    have HI := Lib.hid hit'; clear hit'
    have HB2 := Lib.hid hb'; clear hb'
    have HR := Lib.hid hrun; clear hrun hr
    have HE := Lib.hid he; clear he
    have HL := Lib.hid hr'; clear hr'
    have HC := Lib.hid hco; clear hco hlc
    obtain ⟨ci, ca, cp, cg⟩ := c
    go_wp2_with (at_next; refine wpList_next_run rfl (.tmp 7) rfl 0 rfl _ _ rfl HR.out ?_)
    rw [HE.out]
    simp only [Oper.upon, Result.andThen]
    cases cg
    · have h1 := HC.out
      have h2 := openN_le pg
      simp at h1
      have e : wrap64 ((openN pg : Int) - openN lc + 1) = (openN pg : Int) - openN l' := by unfold wrap64; omega
      go_wp2_with fail
      go_roundg (l'.length)
      case measure => simp at hlen; omega
      case rel => exact ⟨l', left', HI.out.keep (Below.heap_alloc _ _ _ HI.out.lt.1) (Below.heap_alloc _ _ _ HI.out.lt.2.1), HL.out.symm, Nat.le_refl _, by first | rfl | (congr 1; omega), by omega, HB2.out.alloc HB2.out.size _⟩
    · have h1 := HC.out
      simp at h1
      go_wp2_with fail
      go_roundg (l'.length)
      case measure => simp at hlen; omega
      case rel => exact ⟨l', left', HI.out.keep (Below.heap_alloc _ _ _ HI.out.lt.1) (Below.heap_alloc _ _ _ HI.out.lt.2.1), HL.out.symm, Nat.le_refl _, by first | rfl | (congr 1; omega), by omega, HB2.out.alloc HB2.out.size _⟩
end Go.Proofs.YtecnlfaholmpoaaGreat
set_option maxRecDepth 20000
set_option maxHeartbeats 2000000
namespace Go.Proofs.YtecnlfaholmpoaaGreat
open Go.RowKit
theorem stampP (s : Stamp) (r : Bool) (h : properS s = r) (W : World) : Calls Tryz.prog 110 #[.agg #[.int .i64 s.seat, .int .i64 s.count]] W fun e w' => e = .returned (.bool r) ∧ Below W.heap.size W w' := by
 have := properStamp_any s.seat s.count W
 rw [← properS_eq, h] at this
 exact this
theorem cproper_root_true (c : Clause) (w : World) (h1 : sEq c.after.seat c.after.count 0 0 = true) (h2 : properS c.id = true) : Calls Tryz.prog 68 #[c.agg] w fun e w' => e = .returned (.bool true) ∧ Below w.heap.size w w' := by
 go_enter Tryz.func68, Tryz.ntmps68
 go_wp2_with fail
 refine (stampP c.id true h2 _).mono ?_
 rintro e w1 ⟨rfl, hb1⟩
 go_wp2_with fail
 go_ret
 exact ⟨rfl, ((Below.refl w.heap.size w).alloc (Nat.le_refl _) _).trans (hb1.mono (by simp))⟩
theorem cproper_root_false (c : Clause) (w : World) (h1 : sEq c.after.seat c.after.count 0 0 = true) (h2 : properS c.id = false) : Calls Tryz.prog 68 #[c.agg] w fun e w' => e = .returned (.bool false) ∧ Below w.heap.size w w' := by
 go_enter Tryz.func68, Tryz.ntmps68
 go_wp2_with fail
 refine (stampP c.id false h2 _).mono ?_
 rintro e w1 ⟨rfl, hb1⟩
 go_wp2_with fail
 go_ret
 exact ⟨rfl, ((Below.refl w.heap.size w).alloc (Nat.le_refl _) _).trans (hb1.mono (by simp))⟩
theorem cproper_true_true_true (c : Clause) (w : World) (hne : sEq c.after.seat c.after.count 0 0 = false) (h3 : properS c.after = true) (h4 : c.after.count < c.id.count) (h2 : properS c.id = true) : Calls Tryz.prog 68 #[c.agg] w fun e w' => e = .returned (.bool true) ∧ Below w.heap.size w w' := by
 go_enter Tryz.func68, Tryz.ntmps68
 go_wp2_with fail
 refine (stampP c.after true h3 _).mono ?_
 rintro e w1 ⟨rfl, hb1⟩
 have k := rkeepk hb1 (b := w.heap.size) (x := .cells (claCs c) 51 (0, 0)) (by simp [go_sem])
 have k0 : w1.cell? ⟨w.heap.size, 0, none⟩ = some (.int .i64 c.id.seat) := (cell_of_row _ _ _ _ _ _ k).trans rfl
 have k1 : w1.cell? ⟨w.heap.size, 1, none⟩ = some (.int .i64 c.id.count) := (cell_of_row _ _ _ _ _ _ k).trans rfl
 have k2 : w1.cell? ⟨w.heap.size, 2, none⟩ = some (.int .i64 c.after.seat) := (cell_of_row _ _ _ _ _ _ k).trans rfl
 have k3 : w1.cell? ⟨w.heap.size, 3, none⟩ = some (.int .i64 c.after.count) := (cell_of_row _ _ _ _ _ _ k).trans rfl
 clear k
 have hb1' := ((Below.refl w.heap.size w).alloc (Nat.le_refl _) _).trans (hb1.mono (by simp))
 clear hb1
 go_wp2_with fail
 refine (stampP c.id true h2 _).mono ?_
 rintro e w2 ⟨rfl, hb2⟩
 go_wp2_with fail
 go_ret
 exact ⟨by first | rfl | (simp; omega), hb1'.trans (hb2.mono hb1'.size)⟩
theorem cproper_true_true_false (c : Clause) (w : World) (hne : sEq c.after.seat c.after.count 0 0 = false) (h3 : properS c.after = true) (h4 : c.after.count < c.id.count) (h2 : properS c.id = false) : Calls Tryz.prog 68 #[c.agg] w fun e w' => e = .returned (.bool false) ∧ Below w.heap.size w w' := by
 go_enter Tryz.func68, Tryz.ntmps68
 go_wp2_with fail
 refine (stampP c.after true h3 _).mono ?_
 rintro e w1 ⟨rfl, hb1⟩
 have k := rkeepk hb1 (b := w.heap.size) (x := .cells (claCs c) 51 (0, 0)) (by simp [go_sem])
 have k0 : w1.cell? ⟨w.heap.size, 0, none⟩ = some (.int .i64 c.id.seat) := (cell_of_row _ _ _ _ _ _ k).trans rfl
 have k1 : w1.cell? ⟨w.heap.size, 1, none⟩ = some (.int .i64 c.id.count) := (cell_of_row _ _ _ _ _ _ k).trans rfl
 have k2 : w1.cell? ⟨w.heap.size, 2, none⟩ = some (.int .i64 c.after.seat) := (cell_of_row _ _ _ _ _ _ k).trans rfl
 have k3 : w1.cell? ⟨w.heap.size, 3, none⟩ = some (.int .i64 c.after.count) := (cell_of_row _ _ _ _ _ _ k).trans rfl
 clear k
 have hb1' := ((Below.refl w.heap.size w).alloc (Nat.le_refl _) _).trans (hb1.mono (by simp))
 clear hb1
 go_wp2_with fail
 refine (stampP c.id false h2 _).mono ?_
 rintro e w2 ⟨rfl, hb2⟩
 go_wp2_with fail
 go_ret
 exact ⟨by first | rfl | (simp; omega), hb1'.trans (hb2.mono hb1'.size)⟩
theorem cproper_true_false_true (c : Clause) (w : World) (hne : sEq c.after.seat c.after.count 0 0 = false) (h3 : properS c.after = true) (h4 : ¬ c.after.count < c.id.count) (h2 : properS c.id = true) : Calls Tryz.prog 68 #[c.agg] w fun e w' => e = .returned (.bool false) ∧ Below w.heap.size w w' := by
 go_enter Tryz.func68, Tryz.ntmps68
 go_wp2_with fail
 refine (stampP c.after true h3 _).mono ?_
 rintro e w1 ⟨rfl, hb1⟩
 have k := rkeepk hb1 (b := w.heap.size) (x := .cells (claCs c) 51 (0, 0)) (by simp [go_sem])
 have k0 : w1.cell? ⟨w.heap.size, 0, none⟩ = some (.int .i64 c.id.seat) := (cell_of_row _ _ _ _ _ _ k).trans rfl
 have k1 : w1.cell? ⟨w.heap.size, 1, none⟩ = some (.int .i64 c.id.count) := (cell_of_row _ _ _ _ _ _ k).trans rfl
 have k2 : w1.cell? ⟨w.heap.size, 2, none⟩ = some (.int .i64 c.after.seat) := (cell_of_row _ _ _ _ _ _ k).trans rfl
 have k3 : w1.cell? ⟨w.heap.size, 3, none⟩ = some (.int .i64 c.after.count) := (cell_of_row _ _ _ _ _ _ k).trans rfl
 clear k
 have hb1' := ((Below.refl w.heap.size w).alloc (Nat.le_refl _) _).trans (hb1.mono (by simp))
 clear hb1
 go_wp2_with fail
 refine (stampP c.id true h2 _).mono ?_
 rintro e w2 ⟨rfl, hb2⟩
 go_wp2_with fail
 go_ret
 exact ⟨by first | rfl | (simp; omega), hb1'.trans (hb2.mono hb1'.size)⟩
theorem cproper_true_false_false (c : Clause) (w : World) (hne : sEq c.after.seat c.after.count 0 0 = false) (h3 : properS c.after = true) (h4 : ¬ c.after.count < c.id.count) (h2 : properS c.id = false) : Calls Tryz.prog 68 #[c.agg] w fun e w' => e = .returned (.bool false) ∧ Below w.heap.size w w' := by
 go_enter Tryz.func68, Tryz.ntmps68
 go_wp2_with fail
 refine (stampP c.after true h3 _).mono ?_
 rintro e w1 ⟨rfl, hb1⟩
 have k := rkeepk hb1 (b := w.heap.size) (x := .cells (claCs c) 51 (0, 0)) (by simp [go_sem])
 have k0 : w1.cell? ⟨w.heap.size, 0, none⟩ = some (.int .i64 c.id.seat) := (cell_of_row _ _ _ _ _ _ k).trans rfl
 have k1 : w1.cell? ⟨w.heap.size, 1, none⟩ = some (.int .i64 c.id.count) := (cell_of_row _ _ _ _ _ _ k).trans rfl
 have k2 : w1.cell? ⟨w.heap.size, 2, none⟩ = some (.int .i64 c.after.seat) := (cell_of_row _ _ _ _ _ _ k).trans rfl
 have k3 : w1.cell? ⟨w.heap.size, 3, none⟩ = some (.int .i64 c.after.count) := (cell_of_row _ _ _ _ _ _ k).trans rfl
 clear k
 have hb1' := ((Below.refl w.heap.size w).alloc (Nat.le_refl _) _).trans (hb1.mono (by simp))
 clear hb1
 go_wp2_with fail
 refine (stampP c.id false h2 _).mono ?_
 rintro e w2 ⟨rfl, hb2⟩
 go_wp2_with fail
 go_ret
 exact ⟨by first | rfl | (simp; omega), hb1'.trans (hb2.mono hb1'.size)⟩
theorem cproper_false_any_true (c : Clause) (w : World) (hne : sEq c.after.seat c.after.count 0 0 = false) (h3 : properS c.after = false) (h2 : properS c.id = true) : Calls Tryz.prog 68 #[c.agg] w fun e w' => e = .returned (.bool false) ∧ Below w.heap.size w w' := by
 go_enter Tryz.func68, Tryz.ntmps68
 go_wp2_with fail
 refine (stampP c.after false h3 _).mono ?_
 rintro e w1 ⟨rfl, hb1⟩
 have k := rkeepk hb1 (b := w.heap.size) (x := .cells (claCs c) 51 (0, 0)) (by simp [go_sem])
 have k0 : w1.cell? ⟨w.heap.size, 0, none⟩ = some (.int .i64 c.id.seat) := (cell_of_row _ _ _ _ _ _ k).trans rfl
 have k1 : w1.cell? ⟨w.heap.size, 1, none⟩ = some (.int .i64 c.id.count) := (cell_of_row _ _ _ _ _ _ k).trans rfl
 have k2 : w1.cell? ⟨w.heap.size, 2, none⟩ = some (.int .i64 c.after.seat) := (cell_of_row _ _ _ _ _ _ k).trans rfl
 have k3 : w1.cell? ⟨w.heap.size, 3, none⟩ = some (.int .i64 c.after.count) := (cell_of_row _ _ _ _ _ _ k).trans rfl
 clear k
 have hb1' := ((Below.refl w.heap.size w).alloc (Nat.le_refl _) _).trans (hb1.mono (by simp))
 clear hb1
 go_wp2_with fail
 refine (stampP c.id true h2 _).mono ?_
 rintro e w2 ⟨rfl, hb2⟩
 go_wp2_with fail
 go_ret
 exact ⟨by first | rfl | (simp; omega), hb1'.trans (hb2.mono hb1'.size)⟩
theorem cproper_false_any_false (c : Clause) (w : World) (hne : sEq c.after.seat c.after.count 0 0 = false) (h3 : properS c.after = false) (h2 : properS c.id = false) : Calls Tryz.prog 68 #[c.agg] w fun e w' => e = .returned (.bool false) ∧ Below w.heap.size w w' := by
 go_enter Tryz.func68, Tryz.ntmps68
 go_wp2_with fail
 refine (stampP c.after false h3 _).mono ?_
 rintro e w1 ⟨rfl, hb1⟩
 have k := rkeepk hb1 (b := w.heap.size) (x := .cells (claCs c) 51 (0, 0)) (by simp [go_sem])
 have k0 : w1.cell? ⟨w.heap.size, 0, none⟩ = some (.int .i64 c.id.seat) := (cell_of_row _ _ _ _ _ _ k).trans rfl
 have k1 : w1.cell? ⟨w.heap.size, 1, none⟩ = some (.int .i64 c.id.count) := (cell_of_row _ _ _ _ _ _ k).trans rfl
 have k2 : w1.cell? ⟨w.heap.size, 2, none⟩ = some (.int .i64 c.after.seat) := (cell_of_row _ _ _ _ _ _ k).trans rfl
 have k3 : w1.cell? ⟨w.heap.size, 3, none⟩ = some (.int .i64 c.after.count) := (cell_of_row _ _ _ _ _ _ k).trans rfl
 clear k
 have hb1' := ((Below.refl w.heap.size w).alloc (Nat.le_refl _) _).trans (hb1.mono (by simp))
 clear hb1
 go_wp2_with fail
 refine (stampP c.id false h2 _).mono ?_
 rintro e w2 ⟨rfl, hb2⟩
 go_wp2_with fail
 go_ret
 exact ⟨by first | rfl | (simp; omega), hb1'.trans (hb2.mono hb1'.size)⟩
theorem cproper_any (c : Clause) (w : World) : Calls Tryz.prog 68 #[c.agg] w fun e w' => e = .returned (.bool c.proper) ∧ Below w.heap.size w w' := by
 unfold Clause.proper
 have hs0 : sEq c.after.seat c.after.count 0 0 = decide (c.after = noStamp) := sEq_iff (a := c.after) (b := noStamp)
 by_cases h1 : c.after = noStamp
 · have hs : sEq c.after.seat c.after.count 0 0 = true := by rw [hs0]; simpa using h1
   cases h2 : properS c.id
   · simpa [h1] using cproper_root_false c w hs h2
   · simpa [h1] using cproper_root_true c w hs h2
 · have hne : sEq c.after.seat c.after.count 0 0 = false := by rw [hs0]; simpa using h1
   cases h3 : properS c.after
   · cases h2 : properS c.id
     · simpa [h1] using cproper_false_any_false c w hne h3 h2
     · simpa [h1] using cproper_false_any_true c w hne h3 h2
   · by_cases h4 : c.after.count < c.id.count
     · cases h2 : properS c.id
       · simpa [h1, h4] using cproper_true_true_false c w hne h3 h4 h2
       · simpa [h1, h4] using cproper_true_true_true c w hne h3 h4 h2
     · cases h2 : properS c.id
       · simpa [h1, h4] using cproper_true_false_false c w hne h3 h4 h2
       · simpa [h1, h4] using cproper_true_false_true c w hne h3 h4 h2
end Go.Proofs.YtecnlfaholmpoaaGreat
