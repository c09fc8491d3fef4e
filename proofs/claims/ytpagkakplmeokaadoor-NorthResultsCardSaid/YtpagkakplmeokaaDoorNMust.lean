/- A word that must be there; a name; a number. -/
import Derived.Test.YtpagkakplmeokaaDoorNTake2
set_option linter.unusedVariables false
set_option linter.unusedSimpArgs false
namespace Go.Proofs.YtpagkakplmeokaaDoor
open Go.RowKit
theorem idx_neg (i : Nat) : decide ((i : Int) < 0) = false := by simp
set_option maxRecDepth 20000 in
set_option maxHeartbeats 400000 in
theorem must_ok (ws : List (List UInt8)) (W : Option Addr) (cw : Nat) (p fin : Nat) (t : Tok) (l : List Tok) (w : World) (hp : PS w p fin (t :: l)) (hr : RdS w W ws) (hl : ws.length ≤ 100) (i : Nat) (hi : takeF ws (t :: l) = (some i, l)) :
    Calls Tryd.prog 37 #[.pointer (some ⟨p, 0, none⟩), .slice W ws.length cw] w fun e w' => e = .returned (.int .i64 i) ∧ PS w' p fin l ∧ Eff p w w' := by
  have HT := Lib.hid (take_some ws W cw p fin t l w hp hr hl i hi)
  have h0 : (0 : Int) ≤ i := by omega
  clear hp hr hi
  go_enter Tryd.func37, Tryd.ntmps37
  go_wp2_with fail
  refine HT.out.mono ?_
  rintro e w1 ⟨rfl, hp1, he1⟩
  go_wp2_with fail
  go_ret
  exact ⟨rfl, hp1, he1⟩
set_option maxRecDepth 20000 in
set_option maxHeartbeats 400000 in
theorem must_no (ws : List (List UInt8)) (W : Option Addr) (cw : Nat) (p fin : Nat) (l : List Tok) (w : World) (hp : PS w p fin l) (hr : RdS w W ws) (hl : ws.length ≤ 100) (hi : takeF ws l = (none, l)) :
    Calls Tryd.prog 37 #[.pointer (some ⟨p, 0, none⟩), .slice W ws.length cw] w fun e w' => e = stopE (failC l) (posAt fin l) ∧ Below w.heap.size w w' := by
  have HT := Lib.hid (take_no ws W cw p fin l w hp hr hl hi)
  have HP := Lib.hid hp
  clear hp hr hi
  go_enter Tryd.func37, Tryd.ntmps37
  go_wp2_with fail
  refine HT.out.mono ?_
  rintro e w1 ⟨rfl, hb1⟩
  go_wp2_with fail
  refine (fail_any p fin l _ (HP.out.below hb1)).mono ?_
  rintro e w2 ⟨rfl, hb2⟩
  go_wp2_with fail
  exact ⟨rfl, rfl, hb1.trans (hb2.mono hb1.size)⟩
set_option maxRecDepth 20000 in
set_option maxHeartbeats 400000 in
theorem name_ok (p fin : Nat) (t : Tok) (l : List Tok) (w : World) (hp : PS w p fin (t :: l)) (hk : t.kind = 1) (hno : keyF t.text = false) :
    Calls Tryd.prog 38 #[.pointer (some ⟨p, 0, none⟩)] w fun e w' => e = .returned (vs t.text) ∧ PS w' p fin l ∧ Eff p w w' := by
  have HP := Lib.hid hp
  have HF := Lib.hid (hp.fit t (by simp))
  obtain ⟨A, c, hh, hrt, hn, h1, h2⟩ := hp.is
  obtain ⟨b, o, rfl, hb, -, -, -, -, -⟩ := hrt.head
  have hn := hn b o rfl
  simp only [List.length_cons] at hh h1
  have HH := Lib.hid hh
  have c0 := cell_of_blk (o := 0) hh rfl
  have f0 := frozen_of_blk (o := 0) hh
  have hlt := lt_of_heap' hh
  have k1 : ((t.kind : Int) != 1) = false := by simp [hk]
  have HNO := Lib.hid hno
  have HKD := Lib.hid hk
  clear hp hh hk hno
  have hc1 : (1 : Int) ≤ (l.length : Int) + 1 := by omega
  have hc2 : ((l.length : Int) + 1) ≤ c := by omega
  by_cases hc : c = 1
  all_goals
    go_enter Tryd.func38, Tryd.ntmps38
    go_wp2_with (go_at_call 53; refine (next_cons p fin t l _ HP.out).mono ?_; rintro e w1 ⟨rfl, hb1⟩)
    refine (key_any t.text _ (by have := HF.out.len; omega) (HF.out.nospace HKD.out) ((HP.out.below hb1).below ((Below.refl _ _).alloc (Nat.le_refl _) _)).mx).mono ?_
    rintro e w2 ⟨rfl, rfl⟩
    rw [HNO.out]
    have d0 := (hb1.cell (p := ⟨p, 0, none⟩) hlt).trans c0
    have df := (hb1.frozen (p := ⟨p, 0, none⟩) hlt).trans f0
    have dl := World.block_lt_of_cell? _ _ d0
    go_wp2_with fail
    go_ret
    exact ⟨rfl, HP.out.step HH.out hrt hn h1 h2 hb1 _ _ (by omega) (by first | exact .inl rfl | exact .inr ⟨hc, rfl⟩) _⟩
set_option maxRecDepth 20000 in
set_option maxHeartbeats 400000 in
theorem name_nil (p fin : Nat) (w : World) (hp : PS w p fin []) :
    Calls Tryd.prog 38 #[.pointer (some ⟨p, 0, none⟩)] w fun e w' => e = stopE 6 fin ∧ Below w.heap.size w w' := by
  have HP := Lib.hid hp
  clear hp
  go_enter Tryd.func38, Tryd.ntmps38
  go_wp2_with fail
  refine (next_nil p fin _ HP.out).mono ?_
  rintro e w1 ⟨rfl, hb1⟩
  go_wp2_with fail
  refine (fail_any p fin [] _ ((HP.out.below hb1).below ((Below.refl _ _).alloc (Nat.le_refl _) _))).mono ?_
  rintro e w2 ⟨rfl, hb2⟩
  go_wp2_with fail
  exact ⟨rfl, rfl, hb1.trans (((Below.refl _ _).alloc (Nat.le_refl _) _).trans (hb2.mono (by simp)) |>.mono hb1.size)⟩
set_option maxRecDepth 20000 in
set_option maxHeartbeats 400000 in
theorem name_kind (p fin : Nat) (t : Tok) (l : List Tok) (w : World) (hp : PS w p fin (t :: l)) (hk : t.kind ≠ 1) :
    Calls Tryd.prog 38 #[.pointer (some ⟨p, 0, none⟩)] w fun e w' => e = stopE 5 t.pos ∧ Below w.heap.size w w' := by
  have HP := Lib.hid hp
  have k1 : ((t.kind : Int) != 1) = true := by simp; omega
  clear hp hk
  go_enter Tryd.func38, Tryd.ntmps38
  go_wp2_with fail
  refine (next_cons p fin t l _ HP.out).mono ?_
  rintro e w1 ⟨rfl, hb1⟩
  go_wp2_with fail
  refine (fail_any p fin (t :: l) _ ((HP.out.below hb1).below ((Below.refl _ _).alloc (Nat.le_refl _) _))).mono ?_
  rintro e w2 ⟨rfl, hb2⟩
  go_wp2_with fail
  exact ⟨rfl, rfl, hb1.trans (((Below.refl _ _).alloc (Nat.le_refl _) _).trans (hb2.mono (by simp)) |>.mono hb1.size)⟩
set_option maxRecDepth 20000 in
set_option maxHeartbeats 400000 in
theorem name_key (p fin : Nat) (t : Tok) (l : List Tok) (w : World) (hp : PS w p fin (t :: l)) (hk : t.kind = 1) (hno : keyF t.text = true) :
    Calls Tryd.prog 38 #[.pointer (some ⟨p, 0, none⟩)] w fun e w' => e = stopE 5 t.pos ∧ Below w.heap.size w w' := by
  have HP := Lib.hid hp
  have HF := Lib.hid (hp.fit t (by simp))
  have k1 : ((t.kind : Int) != 1) = false := by simp [hk]
  have HNO := Lib.hid hno
  have HKD := Lib.hid hk
  clear hp hk hno
  go_enter Tryd.func38, Tryd.ntmps38
  go_wp2_with fail
  refine (next_cons p fin t l _ HP.out).mono ?_
  rintro e w1 ⟨rfl, hb1⟩
  go_wp2_with fail
  refine (key_any t.text _ (by have := HF.out.len; omega) (HF.out.nospace HKD.out) ((HP.out.below hb1).below ((Below.refl _ _).alloc (Nat.le_refl _) _)).mx).mono ?_
  rintro e w2 ⟨rfl, rfl⟩
  rw [HNO.out]
  go_wp2_with fail
  refine (fail_any p fin (t :: l) _ ((HP.out.below hb1).below ((Below.refl _ _).alloc (Nat.le_refl _) _))).mono ?_
  rintro e w2 ⟨rfl, hb2⟩
  go_wp2_with fail
  exact ⟨rfl, rfl, hb1.trans (((Below.refl _ _).alloc (Nat.le_refl _) _).trans (hb2.mono (by simp)) |>.mono hb1.size)⟩
set_option maxRecDepth 20000 in
set_option maxHeartbeats 400000 in
theorem number_ok (most : Nat) (p fin : Nat) (t : Tok) (l : List Tok) (w : World) (hp : PS w p fin (t :: l)) (hk : t.kind = 2) (hm : t.n ≤ most) :
    Calls Tryd.prog 39 #[.pointer (some ⟨p, 0, none⟩), .int .i64 most] w fun e w' => e = .returned (.int .i64 t.n) ∧ PS w' p fin l ∧ Eff p w w' := by
  have HP := Lib.hid hp
  obtain ⟨A, c, hh, hrt, hn, h1, h2⟩ := hp.is
  obtain ⟨b, o, rfl, hb, -, -, -, -, -⟩ := hrt.head
  have hn := hn b o rfl
  simp only [List.length_cons] at hh h1
  have HH := Lib.hid hh
  have c0 := cell_of_blk (o := 0) hh rfl
  have f0 := frozen_of_blk (o := 0) hh
  have hlt := lt_of_heap' hh
  have k1 : ((t.kind : Int) != 2) = false := by simp [hk]
  have hm' : ¬ (most : Int) < t.n := by omega
  clear hp hh hk hm
  have hc1 : (1 : Int) ≤ (l.length : Int) + 1 := by omega
  have hc2 : ((l.length : Int) + 1) ≤ c := by omega
  by_cases hc : c = 1
  all_goals
    go_enter Tryd.func39, Tryd.ntmps39
    go_wp2_with fail
    refine (next_cons p fin t l _ HP.out).mono ?_
    rintro e w1 ⟨rfl, hb1⟩
    have d0 := (hb1.cell (p := ⟨p, 0, none⟩) hlt).trans c0
    have df := (hb1.frozen (p := ⟨p, 0, none⟩) hlt).trans f0
    have dl := World.block_lt_of_cell? _ _ d0
    go_wp2_with fail
    go_ret
    exact ⟨rfl, HP.out.step HH.out hrt hn h1 h2 hb1 _ _ (by omega) (by first | exact .inl rfl | exact .inr ⟨hc, rfl⟩) _⟩
set_option maxRecDepth 20000 in
set_option maxHeartbeats 400000 in
theorem number_big (most : Nat) (p fin : Nat) (t : Tok) (l : List Tok) (w : World) (hp : PS w p fin (t :: l)) (hk : t.kind = 2) (hm : most < t.n) :
    Calls Tryd.prog 39 #[.pointer (some ⟨p, 0, none⟩), .int .i64 most] w fun e w' => e = stopE 10 t.pos ∧ Below w.heap.size w w' := by
  have HP := Lib.hid hp
  have k1 : ((t.kind : Int) != 2) = false := by simp [hk]
  have hm' : (most : Int) < t.n := by omega
  clear hp hk hm
  go_enter Tryd.func39, Tryd.ntmps39
  go_wp2_with fail
  refine (next_cons p fin t l _ HP.out).mono ?_
  rintro e w1 ⟨rfl, hb1⟩
  go_wp2_with fail
  exact ⟨rfl, rfl, hb1.alloc hb1.size _⟩
set_option maxRecDepth 20000 in
set_option maxHeartbeats 400000 in
theorem number_nil (most : Nat) (p fin : Nat) (w : World) (hp : PS w p fin []) :
    Calls Tryd.prog 39 #[.pointer (some ⟨p, 0, none⟩), .int .i64 most] w fun e w' => e = stopE 6 fin ∧ Below w.heap.size w w' := by
  have HP := Lib.hid hp
  clear hp
  go_enter Tryd.func39, Tryd.ntmps39
  go_wp2_with fail
  refine (next_nil p fin _ HP.out).mono ?_
  rintro e w1 ⟨rfl, hb1⟩
  go_wp2_with fail
  refine (fail_any p fin [] _ ((HP.out.below hb1).below ((Below.refl _ _).alloc (Nat.le_refl _) _))).mono ?_
  rintro e w2 ⟨rfl, hb2⟩
  go_wp2_with fail
  exact ⟨rfl, rfl, hb1.trans (((Below.refl _ _).alloc (Nat.le_refl _) _).trans (hb2.mono (by simp)) |>.mono hb1.size)⟩
set_option maxRecDepth 20000 in
set_option maxHeartbeats 400000 in
theorem number_kind (most : Nat) (p fin : Nat) (t : Tok) (l : List Tok) (w : World) (hp : PS w p fin (t :: l)) (hk : t.kind ≠ 2) :
    Calls Tryd.prog 39 #[.pointer (some ⟨p, 0, none⟩), .int .i64 most] w fun e w' => e = stopE 5 t.pos ∧ Below w.heap.size w w' := by
  have HP := Lib.hid hp
  have k1 : ((t.kind : Int) != 2) = true := by simp; omega
  clear hp hk
  go_enter Tryd.func39, Tryd.ntmps39
  go_wp2_with fail
  refine (next_cons p fin t l _ HP.out).mono ?_
  rintro e w1 ⟨rfl, hb1⟩
  go_wp2_with fail
  refine (fail_any p fin (t :: l) _ ((HP.out.below hb1).below ((Below.refl _ _).alloc (Nat.le_refl _) _))).mono ?_
  rintro e w2 ⟨rfl, hb2⟩
  go_wp2_with fail
  exact ⟨rfl, rfl, hb1.trans (((Below.refl _ _).alloc (Nat.le_refl _) _).trans (hb2.mono (by simp)) |>.mono hb1.size)⟩
end Go.Proofs.YtpagkakplmeokaaDoor
