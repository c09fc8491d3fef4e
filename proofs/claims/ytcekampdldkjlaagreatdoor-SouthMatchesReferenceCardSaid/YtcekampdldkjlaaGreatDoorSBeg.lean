/- The closures that say whether an item begins. -/
import Derived.Test.YtcekampdldkjlaaGreatDoorSGrp
set_option linter.unusedVariables false
set_option linter.unusedSimpArgs false
namespace Go.Proofs.YtcekampdldkjlaaGreatDoor
open Go.RowKit
/- what the closures have captured -/
structure Cap (w : World) (pb sbb mb mp n mbase p sb base : Nat) (ws : List (List UInt8)) : Prop where
  p0 : w.cell? ⟨pb, 0, none⟩ = some (.pointer (some ⟨p, 0, none⟩))
  s0 : w.cell? ⟨sbb, 0, none⟩ = some (.pointer (some ⟨sb, 0, none⟩))
  m0 : w.cell? ⟨mb, 0, none⟩ = some (.map (some mp))
  mm : MapW w mp n mbase ws
  lt : pb < base ∧ sbb < base ∧ mb < base ∧ mp < base
  np : pb ≠ p ∧ sbb ≠ p ∧ mb ≠ p ∧ mp ≠ p
  ns : pb ≠ sb ∧ sbb ≠ sb ∧ mb ≠ sb ∧ mp ≠ sb
theorem Cap.keep {w w' : World} {pb sbb mb mp n mbase p sb base : Nat} {ws : List (List UInt8)} (h : Cap w pb sbb mb mp n mbase p sb base ws) (he : EffS p sb base w w') : Cap w' pb sbb mb mp n mbase p sb base ws :=
  ⟨(cell_of_heap (he.block pb (World.block_lt_of_cell? _ _ h.p0) h.np.1 h.ns.1 h.lt.1) _).trans h.p0, (cell_of_heap (he.block sbb (World.block_lt_of_cell? _ _ h.s0) h.np.2.1 h.ns.2.1 h.lt.2.1) _).trans h.s0,
    (cell_of_heap (he.block mb (World.block_lt_of_cell? _ _ h.m0) h.np.2.2.1 h.ns.2.2.1 h.lt.2.2.1) _).trans h.m0, h.mm.of_heap (he.block mp h.mm.lt h.np.2.2.2 h.ns.2.2.2 h.lt.2.2.2), h.lt, h.np, h.ns⟩
theorem Cap.below {w w' : World} {pb sbb mb mp n mbase p sb base : Nat} {ws : List (List UInt8)} (h : Cap w pb sbb mb mp n mbase p sb base ws) (hb : Below w.heap.size w w') : Cap w' pb sbb mb mp n mbase p sb base ws :=
  h.keep ((Eff.of_below (p := p) hb).toS sb base)
set_option maxRecDepth 20000 in
set_option maxHeartbeats 800000 in
theorem begins_f (pb p fin : Nat) (ts l : List Tok) (w : World) (hp : PS w p fin ts l) (hc : w.cell? ⟨pb, 0, none⟩ = some (.pointer (some ⟨p, 0, none⟩))) :
    Calls Tryz.prog 49 #[.pointer (some ⟨pb, 0, none⟩)] w fun e w' => e = .returned (.bool (beginsF l)) ∧ Below w.heap.size w w' := by
  have HP := Lib.hid hp
  have hl := World.block_lt_of_cell? _ _ hc
  clear hp
  go_enter Tryz.func49, Tryz.ntmps49
  go_wp2_with fail
  refine (isName_any p fin ts l _ HP.out).mono ?_
  rintro e w1 ⟨rfl, hb1⟩
  have HB1 := Lib.hid hb1
  have HP1 := Lib.hid (HP.out.below hb1)
  have c1 := (hb1.cell (p := ⟨pb, 0, none⟩) hl).trans hc
  have hl1 : pb < w1.heap.size := Nat.lt_of_lt_of_le hl hb1.size
  cases hn : isNameF l with
  | true =>
    have HE : Hid (beginsF l = true) := Lib.hid (by unfold beginsF; rw [hn]; rfl)
    clear hn hb1
    go_wp2_with fail
    go_ret
    exact ⟨by rw [HE.out]; rfl, HB1.out⟩
  | false =>
    have HE : Hid (beginsF l = seesF [[121, 101, 115], [110, 111], [110, 101, 103, 97, 116, 101, 100], [97, 108, 108], [97, 110, 121]] l) := Lib.hid (by unfold beginsF; rw [hn]; rfl)
    clear hn hb1
    go_wp2_with fail
    have hal : Below w1.heap.size w1 (w1.alloc (.cells #[vs [121, 101, 115], vs [110, 111], vs [110, 101, 103, 97, 116, 101, 100], vs [97, 108, 108], vs [97, 110, 121]] 9 (0, 0))) := (Below.refl _ _).alloc (Nat.le_refl _) _
    refine (sees_any [[121, 101, 115], [110, 111], [110, 101, 103, 97, 116, 101, 100], [97, 108, 108], [97, 110, 121]] (some ⟨w1.heap.size, 0, none⟩) 5 p fin ts l _ (HP1.out.below hal) (RdS.new (heap_alloc_new w1 _)) (by decide)).mono ?_
    rintro e w2 ⟨rfl, hb2⟩
    have HB2 := Lib.hid (HB1.out.trans ((hal.trans (hb2.mono hal.size)).mono HB1.out.size))
    generalize seesF [[121, 101, 115], [110, 111], [110, 101, 103, 97, 116, 101, 100], [97, 108, 108], [97, 110, 121]] l = S at HE ⊢
    clear hb2 hal
    go_wp2_with fail
    go_ret
    exact ⟨by rw [HE.out]; rfl, HB2.out⟩
theorem head_kind (fin : Nat) (l : List Tok) : (l.head?.any fun t => t.kind == 2) = ((headT fin l).kind == 2) := by
  cases l with
  | nil => rfl
  | cons t r => rfl
set_option maxRecDepth 20000 in
set_option maxHeartbeats 1600000 in
theorem begins_s (pb p fin : Nat) (ts l : List Tok) (w : World) (hp : PS w p fin ts l) (hc : w.cell? ⟨pb, 0, none⟩ = some (.pointer (some ⟨p, 0, none⟩))) :
    Calls Tryz.prog 60 #[.pointer (some ⟨pb, 0, none⟩)] w fun e w' => e = .returned (.bool (beginsS l)) ∧ Below w.heap.size w w' := by
  have HP := Lib.hid hp
  have hl := World.block_lt_of_cell? _ _ hc
  clear hp
  go_enter Tryz.func60, Tryz.ntmps60
  go_wp2_with fail
  refine (isName_any p fin ts l _ HP.out).mono ?_
  rintro e w1 ⟨rfl, hb1⟩
  have HB1 := Lib.hid hb1
  have HP1 := Lib.hid (HP.out.below hb1)
  have c1 := (hb1.cell (p := ⟨pb, 0, none⟩) hl).trans hc
  have hl1 : pb < w1.heap.size := Nat.lt_of_lt_of_le hl hb1.size
  cases hn : isNameF l with
  | true =>
    have HE : Hid (beginsS l = true) := Lib.hid (by unfold beginsS; rw [hn]; rfl)
    clear hn hb1
    go_wp2_with fail
    go_ret
    exact ⟨by rw [HE.out]; rfl, HB1.out⟩
  | false =>
    have HN := Lib.hid hn
    clear hn hb1
    go_wp2_with fail
    have hal : Below w1.heap.size w1 (w1.alloc (.cells #[vs [97, 108, 119, 97, 121, 115], vs [110, 101, 118, 101, 114], vs [97, 108, 108], vs [97, 110, 121]] 9 (0, 0))) := (Below.refl _ _).alloc (Nat.le_refl _) _
    refine (sees_any [[97, 108, 119, 97, 121, 115], [110, 101, 118, 101, 114], [97, 108, 108], [97, 110, 121]] (some ⟨w1.heap.size, 0, none⟩) 4 p fin ts l _ (HP1.out.below hal) (RdS.new (heap_alloc_new w1 _)) (by decide)).mono ?_
    rintro e w2 ⟨rfl, hb2⟩
    have hb12 := hal.trans (hb2.mono hal.size)
    have HB2 := Lib.hid (HB1.out.trans (hb12.mono HB1.out.size))
    have HP2 := Lib.hid (HP1.out.below hb12)
    have c2 := (hb12.cell (p := ⟨pb, 0, none⟩) hl1).trans c1
    have hl2 : pb < w2.heap.size := Nat.lt_of_lt_of_le hl1 hb12.size
    clear hb2 hal hb12
    cases hs : seesF [[97, 108, 119, 97, 121, 115], [110, 101, 118, 101, 114], [97, 108, 108], [97, 110, 121]] l with
    | true =>
      have HE : Hid (beginsS l = true) := Lib.hid (by unfold beginsS; rw [HN.out, hs]; rfl)
      clear hs
      go_wp2_with fail
      go_ret
      exact ⟨by rw [HE.out]; rfl, HB2.out⟩
    | false =>
      have HE : Hid (beginsS l = ((headT fin l).kind == 2)) := Lib.hid (by unfold beginsS; rw [HN.out, hs, head_kind fin]; rfl)
      clear hs
      go_wp2_with fail
      refine (peek_any p fin ts l _ HP2.out).mono ?_
      rintro e w3 ⟨rfl, hb3⟩
      generalize headT fin l = T at HE ⊢
      have HB3 := Lib.hid (HB2.out.trans (hb3.mono HB2.out.size))
      simp only [Tok.agg]
      clear hb3
      by_cases hk : T.kind = 2
      · have i1 : ((T.kind : Int) == 2) = true := by simp; omega
        have HE2 : Hid (beginsS l = true) := Lib.hid (by rw [HE.out, hk]; rfl)
        clear hk
        go_wp2_with fail
        go_ret
        exact ⟨by rw [HE2.out]; rfl, HB3.out⟩
      · have i1 : ((T.kind : Int) == 2) = false := by simp; omega
        have HE2 : Hid (beginsS l = false) := Lib.hid (by rw [HE.out]; simp [hk])
        clear hk
        go_wp2_with fail
        go_ret
        exact ⟨by rw [HE2.out]; rfl, HB3.out⟩
end Go.Proofs.YtcekampdldkjlaaGreatDoor
