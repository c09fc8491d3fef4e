/- A word that must be there; a name; a number. Results of the parser's functions; conditions in memory. Rows of conditions that a call owns. -/
import Derived.Test.YtbicmjmcdnkjhaaGreatDoorJNN24
import Derived.Test.YtbicmjmcdnkjhaaGreatDoorJNN2
import Derived.Laws.AppendOwn
import Derived.Maps.AppendAt
import Derived.OwnWalk
set_option linter.unusedVariables false
set_option linter.unusedSimpArgs false
set_option maxRecDepth 20000
set_option maxHeartbeats 400000
namespace Go.Proofs.YtbicmjmcdnkjhaaGreatDoor
open Go.RowKit
theorem idx_neg (i : Nat) : decide ((i : Int) < 0) = false := by simp
theorem must_ok (ws : List (List UInt8)) (W : Option Addr) (cw : Nat) (p fin : Nat) (t : Tok) (l : List Tok) (w : World) (hp : PS w p fin (t :: l)) (hr : RdS w W ws) (hl : ws.length ≤ 100) (i : Nat) (hi : takeF ws (t :: l) = (some i, l)) :
 Calls Tryz.prog 78 #[.pointer (some ⟨p, 0, none⟩), .slice W ws.length cw] w fun e w' => e = .returned (.int .i64 i) ∧ PS w' p fin l ∧ Eff p w w' := by
 have HT := Lib.hid (take_some ws W cw p fin t l w hp hr hl i hi)
 have h0 : (0 : Int) ≤ i := by omega
 clear hp hr hi
 go_enter Tryz.func78, Tryz.ntmps78
 go_wp2_with fail
 refine HT.out.mono ?_
 rintro e w1 ⟨rfl, hp1, he1⟩
 go_wp2_with fail
 go_ret
 exact ⟨rfl, hp1, he1⟩
theorem must_no (ws : List (List UInt8)) (W : Option Addr) (cw : Nat) (p fin : Nat) (l : List Tok) (w : World) (hp : PS w p fin l) (hr : RdS w W ws) (hl : ws.length ≤ 100) (hi : takeF ws l = (none, l)) :
 Calls Tryz.prog 78 #[.pointer (some ⟨p, 0, none⟩), .slice W ws.length cw] w fun e w' => e = stopE (failC l) (posAt fin l) ∧ Below w.heap.size w w' := by
 have HT := Lib.hid (take_no ws W cw p fin l w hp hr hl hi)
 have HP := Lib.hid hp
 clear hp hr hi
 go_enter Tryz.func78, Tryz.ntmps78
 go_wp2_with fail
 refine HT.out.mono ?_
 rintro e w1 ⟨rfl, hb1⟩
 go_wp2_with fail
 refine (fail_any p fin l _ (HP.out.below hb1)).mono ?_
 rintro e w2 ⟨rfl, hb2⟩
 go_wp2_with fail
 exact ⟨rfl, rfl, hb1.trans (hb2.mono hb1.size)⟩
theorem name_ok (p fin : Nat) (t : Tok) (l : List Tok) (w : World) (hp : PS w p fin (t :: l)) (hk : t.kind = 1) (hno : keyF t.text = false) :
 Calls Tryz.prog 79 #[.pointer (some ⟨p, 0, none⟩)] w fun e w' => e = .returned (vs t.text) ∧ PS w' p fin l ∧ Eff p w w' := by
 have HP := Lib.hid hp
 have HF := Lib.hid (hp.fit t (by simp))
 obtain ⟨A, c, hh, hrt, hn, h1, h2⟩ := hp.is
 obtain ⟨b, o, rfl, hb, -, -, -, -, -⟩ := hrt.head
 have hn := hn b o rfl
 simp only [List.length_cons] at hh h1
 have HH := Lib.hid hh
 have c0 := cell_of_blk (o := 0) hh rfl
 have f0 := frozen_of_blk (o := 0) hh
 have hlt := lt_of_heap' hh
 have k1 : ((t.kind : Int) != 1) = false := by simp [hk]
 have HNO := Lib.hid hno
 have HKD := Lib.hid hk
 clear hp hh hk hno
 have hc1 : (1 : Int) ≤ (l.length : Int) + 1 := by omega
 have hc2 : ((l.length : Int) + 1) ≤ c := by omega
 by_cases hc : c = 1
 all_goals
  go_enter Tryz.func79, Tryz.ntmps79
  go_wp2_with (go_at_call 118; refine (next_cons p fin t l _ HP.out).mono ?_; rintro e w1 ⟨rfl, hb1⟩)
  refine (key_any t.text _ (by have := HF.out.len; omega) (HF.out.nospace HKD.out) ((HP.out.below hb1).below ((Below.refl _ _).alloc (Nat.le_refl _) _)).mx).mono ?_
  rintro e w2 ⟨rfl, rfl⟩
  rw [HNO.out]
  have d0 := (hb1.cell (p := ⟨p, 0, none⟩) hlt).trans c0
  have df := (hb1.frozen (p := ⟨p, 0, none⟩) hlt).trans f0
  have dl := World.block_lt_of_cell? _ _ d0
  go_wp2_with fail
  go_ret
  exact ⟨rfl, HP.out.step HH.out hrt hn h1 h2 hb1 _ _ (by omega) (by first | exact .inl rfl | exact .inr ⟨hc, rfl⟩) _⟩
theorem name_nil (p fin : Nat) (w : World) (hp : PS w p fin []) :
 Calls Tryz.prog 79 #[.pointer (some ⟨p, 0, none⟩)] w fun e w' => e = stopE 6 fin ∧ Below w.heap.size w w' := by
 have HP := Lib.hid hp
 clear hp
 go_enter Tryz.func79, Tryz.ntmps79
 go_wp2_with fail
 refine (next_nil p fin _ HP.out).mono ?_
 rintro e w1 ⟨rfl, hb1⟩
 go_wp2_with fail
 refine (fail_any p fin [] _ ((HP.out.below hb1).below ((Below.refl _ _).alloc (Nat.le_refl _) _))).mono ?_
 rintro e w2 ⟨rfl, hb2⟩
 go_wp2_with fail
 exact ⟨rfl, rfl, hb1.trans (((Below.refl _ _).alloc (Nat.le_refl _) _).trans (hb2.mono (by simp)) |>.mono hb1.size)⟩
theorem name_kind (p fin : Nat) (t : Tok) (l : List Tok) (w : World) (hp : PS w p fin (t :: l)) (hk : t.kind ≠ 1) :
 Calls Tryz.prog 79 #[.pointer (some ⟨p, 0, none⟩)] w fun e w' => e = stopE 5 t.pos ∧ Below w.heap.size w w' := by
 have HP := Lib.hid hp
 have k1 : ((t.kind : Int) != 1) = true := by simp; omega
 clear hp hk
 go_enter Tryz.func79, Tryz.ntmps79
 go_wp2_with fail
 refine (next_cons p fin t l _ HP.out).mono ?_
 rintro e w1 ⟨rfl, hb1⟩
 go_wp2_with fail
 refine (fail_any p fin (t :: l) _ ((HP.out.below hb1).below ((Below.refl _ _).alloc (Nat.le_refl _) _))).mono ?_
 rintro e w2 ⟨rfl, hb2⟩
 go_wp2_with fail
 exact ⟨rfl, rfl, hb1.trans (((Below.refl _ _).alloc (Nat.le_refl _) _).trans (hb2.mono (by simp)) |>.mono hb1.size)⟩
theorem name_key (p fin : Nat) (t : Tok) (l : List Tok) (w : World) (hp : PS w p fin (t :: l)) (hk : t.kind = 1) (hno : keyF t.text = true) :
 Calls Tryz.prog 79 #[.pointer (some ⟨p, 0, none⟩)] w fun e w' => e = stopE 5 t.pos ∧ Below w.heap.size w w' := by
 have HP := Lib.hid hp
 have HF := Lib.hid (hp.fit t (by simp))
 have k1 : ((t.kind : Int) != 1) = false := by simp [hk]
 have HNO := Lib.hid hno
 have HKD := Lib.hid hk
 clear hp hk hno
 go_enter Tryz.func79, Tryz.ntmps79
 go_wp2_with fail
 refine (next_cons p fin t l _ HP.out).mono ?_
 rintro e w1 ⟨rfl, hb1⟩
 go_wp2_with fail
 refine (key_any t.text _ (by have := HF.out.len; omega) (HF.out.nospace HKD.out) ((HP.out.below hb1).below ((Below.refl _ _).alloc (Nat.le_refl _) _)).mx).mono ?_
 rintro e w2 ⟨rfl, rfl⟩
 rw [HNO.out]
 go_wp2_with fail
 refine (fail_any p fin (t :: l) _ ((HP.out.below hb1).below ((Below.refl _ _).alloc (Nat.le_refl _) _))).mono ?_
 rintro e w2 ⟨rfl, hb2⟩
 go_wp2_with fail
 exact ⟨rfl, rfl, hb1.trans (((Below.refl _ _).alloc (Nat.le_refl _) _).trans (hb2.mono (by simp)) |>.mono hb1.size)⟩
theorem number_ok (most : Nat) (p fin : Nat) (t : Tok) (l : List Tok) (w : World) (hp : PS w p fin (t :: l)) (hk : t.kind = 2) (hm : t.n ≤ most) :
 Calls Tryz.prog 80 #[.pointer (some ⟨p, 0, none⟩), .int .i64 most] w fun e w' => e = .returned (.int .i64 t.n) ∧ PS w' p fin l ∧ Eff p w w' := by
 have HP := Lib.hid hp
 obtain ⟨A, c, hh, hrt, hn, h1, h2⟩ := hp.is
 obtain ⟨b, o, rfl, hb, -, -, -, -, -⟩ := hrt.head
 have hn := hn b o rfl
 simp only [List.length_cons] at hh h1
 have HH := Lib.hid hh
 have c0 := cell_of_blk (o := 0) hh rfl
 have f0 := frozen_of_blk (o := 0) hh
 have hlt := lt_of_heap' hh
 have k1 : ((t.kind : Int) != 2) = false := by simp [hk]
 have hm' : ¬ (most : Int) < t.n := by omega
 clear hp hh hk hm
 have hc1 : (1 : Int) ≤ (l.length : Int) + 1 := by omega
 have hc2 : ((l.length : Int) + 1) ≤ c := by omega
 by_cases hc : c = 1
 all_goals
  go_enter Tryz.func80, Tryz.ntmps80
  go_wp2_with fail
  refine (next_cons p fin t l _ HP.out).mono ?_
  rintro e w1 ⟨rfl, hb1⟩
  have d0 := (hb1.cell (p := ⟨p, 0, none⟩) hlt).trans c0
  have df := (hb1.frozen (p := ⟨p, 0, none⟩) hlt).trans f0
  have dl := World.block_lt_of_cell? _ _ d0
  go_wp2_with fail
  go_ret
  exact ⟨rfl, HP.out.step HH.out hrt hn h1 h2 hb1 _ _ (by omega) (by first | exact .inl rfl | exact .inr ⟨hc, rfl⟩) _⟩
theorem number_big (most : Nat) (p fin : Nat) (t : Tok) (l : List Tok) (w : World) (hp : PS w p fin (t :: l)) (hk : t.kind = 2) (hm : most < t.n) :
 Calls Tryz.prog 80 #[.pointer (some ⟨p, 0, none⟩), .int .i64 most] w fun e w' => e = stopE 10 t.pos ∧ Below w.heap.size w w' := by
 have HP := Lib.hid hp
 have k1 : ((t.kind : Int) != 2) = false := by simp [hk]
 have hm' : (most : Int) < t.n := by omega
 clear hp hk hm
 go_enter Tryz.func80, Tryz.ntmps80
 go_wp2_with fail
 refine (next_cons p fin t l _ HP.out).mono ?_
 rintro e w1 ⟨rfl, hb1⟩
 go_wp2_with fail
 exact ⟨rfl, rfl, hb1.alloc hb1.size _⟩
theorem number_nil (most : Nat) (p fin : Nat) (w : World) (hp : PS w p fin []) :
 Calls Tryz.prog 80 #[.pointer (some ⟨p, 0, none⟩), .int .i64 most] w fun e w' => e = stopE 6 fin ∧ Below w.heap.size w w' := by
 have HP := Lib.hid hp
 clear hp
 go_enter Tryz.func80, Tryz.ntmps80
 go_wp2_with fail
 refine (next_nil p fin _ HP.out).mono ?_
 rintro e w1 ⟨rfl, hb1⟩
 go_wp2_with fail
 refine (fail_any p fin [] _ ((HP.out.below hb1).below ((Below.refl _ _).alloc (Nat.le_refl _) _))).mono ?_
 rintro e w2 ⟨rfl, hb2⟩
 go_wp2_with fail
 exact ⟨rfl, rfl, hb1.trans (((Below.refl _ _).alloc (Nat.le_refl _) _).trans (hb2.mono (by simp)) |>.mono hb1.size)⟩
theorem number_kind (most : Nat) (p fin : Nat) (t : Tok) (l : List Tok) (w : World) (hp : PS w p fin (t :: l)) (hk : t.kind ≠ 2) :
 Calls Tryz.prog 80 #[.pointer (some ⟨p, 0, none⟩), .int .i64 most] w fun e w' => e = stopE 5 t.pos ∧ Below w.heap.size w w' := by
 have HP := Lib.hid hp
 have k1 : ((t.kind : Int) != 2) = true := by simp; omega
 clear hp hk
 go_enter Tryz.func80, Tryz.ntmps80
 go_wp2_with fail
 refine (next_cons p fin t l _ HP.out).mono ?_
 rintro e w1 ⟨rfl, hb1⟩
 go_wp2_with fail
 refine (fail_any p fin (t :: l) _ ((HP.out.below hb1).below ((Below.refl _ _).alloc (Nat.le_refl _) _))).mono ?_
 rintro e w2 ⟨rfl, hb2⟩
 go_wp2_with fail
 exact ⟨rfl, rfl, hb1.trans (((Below.refl _ _).alloc (Nat.le_refl _) _).trans (hb2.mono (by simp)) |>.mono hb1.size)⟩
end Go.Proofs.YtbicmjmcdnkjhaaGreatDoor
namespace Go.Proofs.YtbicmjmcdnkjhaaGreatDoor
open Go.RowKit
/- what a function of the parser answers -/
def OutR {α : Type} (p fin : Nat) (w : World) (res : R α) (V : α → Value → World → Prop) (e : Ending) (w' : World) : Prop :=
 match res with
 | .ok (x, r) => ∃ v, e = .returned v ∧ V x v w' ∧ PS w' p fin r ∧ Eff p w w'
 | .error (er, s) => e = stopE er (posAt fin s) ∧ Eff p w w'
theorem must_any (ws : List (List UInt8)) (W : Option Addr) (cw : Nat) (p fin : Nat) (l : List Tok) (w : World) (hp : PS w p fin l) (hr : RdS w W ws) (hl : ws.length ≤ 100) :
 Calls Tryz.prog 78 #[.pointer (some ⟨p, 0, none⟩), .slice W ws.length cw] w (OutR p fin w (mustF ws l) (fun i v _ => v = .int .i64 i)) := by
 rcases takeF_cases ws l with ht | ⟨t, r, i, rfl, ht, -, -⟩
 · have h : mustF ws l = .error (failC l, l) := by simp only [mustF, optF, ht, failR]
   rw [h]
   exact (must_no ws W cw p fin l w hp hr hl ht).mono fun e w' ⟨h1, h2⟩ => ⟨h1, Eff.of_below h2⟩
 · have h : mustF ws (t :: r) = .ok (i, r) := by simp only [mustF, optF, ht]
   rw [h]
   exact (must_ok ws W cw p fin t r w hp hr hl i ht).mono fun e w' ⟨h1, h2, h3⟩ => ⟨_, h1, rfl, h2, h3⟩
theorem name_any (p fin : Nat) (l : List Tok) (w : World) (hp : PS w p fin l) :
 Calls Tryz.prog 79 #[.pointer (some ⟨p, 0, none⟩)] w (OutR p fin w (nameF l) (fun s v _ => v = vs s)) := by
 cases l with
 | nil => exact (name_nil p fin w hp).mono fun e w' ⟨h1, h2⟩ => ⟨h1, Eff.of_below h2⟩
 | cons t r =>
   by_cases hk : t.kind = 1
   · cases hq : keyF t.text with
     | false =>
       have h : nameF (t :: r) = .ok (t.text, r) := by simp [nameF, hk, hq]
       rw [h]
       exact (name_ok p fin t r w hp hk hq).mono fun e w' ⟨h1, h2, h3⟩ => ⟨_, h1, rfl, h2, h3⟩
     | true =>
       have h : nameF (t :: r) = .error (5, t :: r) := by simp [nameF, hk, hq, failR, failC]
       rw [h]
       exact (name_key p fin t r w hp hk hq).mono fun e w' ⟨h1, h2⟩ => ⟨h1, Eff.of_below h2⟩
   · have h : nameF (t :: r) = .error (5, t :: r) := by simp [nameF, hk, failR, failC]
     rw [h]
     exact (name_kind p fin t r w hp hk).mono fun e w' ⟨h1, h2⟩ => ⟨h1, Eff.of_below h2⟩
theorem number_any (most : Nat) (p fin : Nat) (l : List Tok) (w : World) (hp : PS w p fin l) :
 Calls Tryz.prog 80 #[.pointer (some ⟨p, 0, none⟩), .int .i64 most] w (OutR p fin w (numberF most l) (fun n v _ => v = .int .i64 n)) := by
 cases l with
 | nil => exact (number_nil most p fin w hp).mono fun e w' ⟨h1, h2⟩ => ⟨h1, Eff.of_below h2⟩
 | cons t r =>
   by_cases hk : t.kind = 2
   · by_cases hm : most < t.n
     · have h : numberF most (t :: r) = .error (10, t :: r) := by simp [numberF, hk, hm]
       rw [h]
       exact (number_big most p fin t r w hp hk hm).mono fun e w' ⟨h1, h2⟩ => ⟨h1, Eff.of_below h2⟩
     · have h : numberF most (t :: r) = .ok (t.n, r) := by simp [numberF, hk, hm]
       rw [h]
       exact (number_ok most p fin t r w hp hk (by omega)).mono fun e w' ⟨h1, h2, h3⟩ => ⟨_, h1, rfl, h2, h3⟩
   · have h : numberF most (t :: r) = .error (5, t :: r) := by simp [numberF, hk, failR, failC]
     rw [h]
     exact (number_kind most p fin t r w hp hk).mono fun e w' ⟨h1, h2⟩ => ⟨h1, Eff.of_below h2⟩
/- the cells of a condition: a formula (true), or one of commencement (false) -/
def tsz (fm : Bool) : Nat := if fm then 5 else 4
def tcs (fm : Bool) (op : Nat) (name : List UInt8) (cmp n : Nat) (s : Value) : List Value :=
 match fm with
 | true => [.int .i64 op, vs name, .int .i64 cmp, .int .i64 n, s]
 | false => [.int .i64 op, vs name, .int .i64 n, s]
mutual
def RdTree (fm : Bool) (S : Nat → Prop) (w : World) (cs : List Value) : Tree → Prop
 | .mk op name cmp n ks => ∃ A cap, cs = tcs fm op name cmp n (.slice A ks.length cap) ∧ ks.length ≤ cap ∧ (ks = [] ∨ ∃ b o, A = some ⟨b, o, none⟩ ∧ S b ∧ b < w.heap.size ∧ RdKids fm S w b o ks)
def RdKids (fm : Bool) (S : Nat → Prop) (w : World) (b : Nat) (o : Nat) : List Tree → Prop
 | [] => True
 | t :: r => (∃ cs, (∀ j v, cs[j]? = some v → w.cell? ⟨b, o + j, none⟩ = some v) ∧ RdTree fm S w cs t) ∧ RdKids fm S w b (o + tsz fm) r
end
mutual
theorem RdTree.keep {fm : Bool} {S S' : Nat → Prop} {w w' : World} (hs : w.heap.size ≤ w'.heap.size) (hk : ∀ b, S b → b < w.heap.size → S' b ∧ w'.heap[b]? = w.heap[b]?) : ∀ {cs : List Value} {t : Tree}, RdTree fm S w cs t → RdTree fm S' w' cs t
 | cs, .mk op name cmp n ks, h => by
   obtain ⟨A, cap, h1, h2, h3⟩ := h
   refine ⟨A, cap, h1, h2, ?_⟩
   rcases h3 with h3 | ⟨b, o, hA, hS, hb, h3⟩
   · exact .inl h3
   · exact .inr ⟨b, o, hA, (hk b hS hb).1, Nat.lt_of_lt_of_le hb hs, RdKids.keep hs hk (hk b hS hb).2 h3⟩
theorem RdKids.keep {fm : Bool} {S S' : Nat → Prop} {w w' : World} (hs : w.heap.size ≤ w'.heap.size) (hk : ∀ b, S b → b < w.heap.size → S' b ∧ w'.heap[b]? = w.heap[b]?) {b : Nat} (hb : w'.heap[b]? = w.heap[b]?) : ∀ {o : Nat} {ks : List Tree}, RdKids fm S w b o ks → RdKids fm S' w' b o ks
 | o, [], h => trivial
 | o, t :: r, h => by
   obtain ⟨⟨cs, h1, h2⟩, h3⟩ := h
   exact ⟨⟨cs, fun j v hv => (cell_of_heap hb _).trans (h1 j v hv), RdTree.keep hs hk h2⟩, RdKids.keep hs hk hb h3⟩
end
theorem RdTree.eff {fm : Bool} {base p : Nat} {w w' : World} (he : Eff p w w') (hp : p < base) {cs : List Value} {t : Tree} (h : RdTree fm (fun b => base ≤ b) w cs t) : RdTree fm (fun b => base ≤ b) w' cs t :=
 h.keep he.size (fun b hb hlt => ⟨hb, he.block b hlt (by omega)⟩)
theorem RdTree.len {fm : Bool} {S : Nat → Prop} {w : World} {cs : List Value} {t : Tree} (h : RdTree fm S w cs t) : cs.length = tsz fm := by
 cases t with
 | mk op name cmp n ks =>
   obtain ⟨A, cap, rfl, _⟩ := h
   cases fm <;> rfl
theorem RdTree.one {fm : Bool} {S : Nat → Prop} {w : World} {cs : List Value} {t : Tree} (h : RdTree fm S w cs t) : ∀ u ∈ cs, u.oneCell' = true := by
 cases t with
 | mk op name cmp n ks =>
   obtain ⟨A, cap, rfl, _⟩ := h
   intro u hu
   cases fm <;> simp [tcs] at hu
   · rcases hu with rfl | rfl | rfl | rfl <;> rfl
   · rcases hu with rfl | rfl | rfl | rfl | rfl <;> rfl
theorem RdTree.leaf {fm : Bool} {S : Nat → Prop} {w : World} (op : Nat) (name : List UInt8) (cmp n : Nat) (A : Option Addr) (cap : Nat) : RdTree fm S w (tcs fm op name cmp n (.slice A 0 cap)) (.mk op name cmp n []) :=
 ⟨A, cap, rfl, Nat.zero_le _, .inl rfl⟩
/- kids that lie in a row of the call's own -/
theorem kids_of_row {fm : Bool} {S : Nat → Prop} {w : World} {b : Nat} : ∀ {l : List Tree} {css : List (List Value)} {o : Nat}, css.length = l.length → (∀ (i : Nat) (cs : List Value) (t : Tree), css[i]? = some cs → l[i]? = some t → RdTree fm S w cs t) → (∀ j v, css.flatten[j]? = some v → w.cell? ⟨b, o + j, none⟩ = some v) → RdKids fm S w b o l
 | [], css, o, _, _, _ => trivial
 | t :: r, [], o, h, _, _ => by simp at h
 | t :: r, cs :: css, o, h, hr, hc => by
   have h0 := hr 0 cs t rfl rfl
   have hl := h0.len
   refine ⟨⟨cs, fun j v hv => hc j v ?_, h0⟩, kids_of_row (css := css) (by simpa using h) (fun i c x h1 h2 => hr (i + 1) c x (by simpa using h1) (by simpa using h2)) (fun j v hv => ?_)⟩
   · rw [List.flatten_cons, List.getElem?_append_left (List.getElem?_eq_some_iff.1 hv).1]; exact hv
   · rw [Nat.add_assoc]
     refine hc (tsz fm + j) v ?_
     rw [List.flatten_cons, List.getElem?_append_right (by omega), hl, Nat.add_sub_cancel_left]; exact hv
end Go.Proofs.YtbicmjmcdnkjhaaGreatDoor
namespace Go.Proofs.YtbicmjmcdnkjhaaGreatDoor
open Go.RowKit
def tE (fm : Bool) : TypeId := if fm then 24 else 28
structure OwnT (fm : Bool) (w : World) (base : Nat) (v : Value) (l : List Tree) : Prop where
 is : ∃ css : List (List Value), css.length = l.length ∧ (∀ (i : Nat) (cs : List Value) (t : Tree), css[i]? = some cs → l[i]? = some t → RdTree fm (fun b => base ≤ b ∧ v.ownBlock ≠ some b) w cs t) ∧ w.ownsRow base (tE fm) (tsz fm) v l.length css.flatten
/- where the row lies -/
theorem OwnT.form {fm : Bool} {w : World} {base : Nat} {v : Value} {l : List Tree} (h : OwnT fm w base v l) (hne : l ≠ []) : ∃ g cap, v = .slice (some ⟨g, 0, none⟩) l.length cap ∧ base ≤ g ∧ g < w.heap.size ∧ l.length ≤ cap ∧ RdKids fm (fun b => base ≤ b) w g 0 l := by
 obtain ⟨css, h1, h2, h3⟩ := h.is
 have hl : 0 < l.length := List.length_pos_iff.2 hne
 rcases h3.2 with ⟨-, h0⟩ | ⟨g, cap, cur, rfl, r2, r3, r4, r5, r6, r7⟩
 · omega
 · refine ⟨g, cap, rfl, r2, lt_of_heap' r3, r4, kids_of_row h1 (fun i cs t a b => (h2 i cs t a b).keep (Nat.le_refl _) (fun b hb _ => ⟨hb.1, rfl⟩)) (fun j u hu => ?_)⟩
   rw [Nat.zero_add]
   refine cell_of_blk r3 ?_
   rw [← r7, List.getElem?_take] at hu
   split at hu
   · rw [← Array.getElem?_toList]; exact hu
   · cases hu
theorem OwnT.keep {fm : Bool} {w w' : World} {base : Nat} {v : Value} {l : List Tree} (h : OwnT fm w base v l) (hs : w.heap.size ≤ w'.heap.size) (hk : ∀ b, base ≤ b → b < w.heap.size → w'.heap[b]? = w.heap[b]?) : OwnT fm w' base v l := by
 obtain ⟨css, h1, h2, h3⟩ := h.is
 refine ⟨css, h1, fun i cs t a b => (h2 i cs t a b).keep hs (fun b hb hlt => ⟨hb, hk b hb.1 hlt⟩), h3.1, ?_⟩
 rcases h3.2 with h | ⟨g, cap, cur, rfl, r2, r3, r4⟩
 · exact .inl h
 · exact .inr ⟨g, cap, cur, rfl, r2, (hk g r2 (lt_of_heap' r3)).trans r3, r4⟩
theorem OwnT.eff {fm : Bool} {p : Nat} {w w' : World} {base : Nat} {v : Value} {l : List Tree} (h : OwnT fm w base v l) (he : Eff p w w') (hp : p < base) : OwnT fm w' base v l :=
 h.keep he.size (fun b hb hlt => he.block b hlt (by omega))
/- a row of one -/
theorem OwnT.one {fm : Bool} {w : World} {base : Nat} {cs : List Value} {t : Tree} (hb : base ≤ w.heap.size) (h : RdTree fm (fun b => base ≤ b) w cs t) : OwnT fm (w.alloc (.cells cs.toArray (tE fm))) base (.slice (some ⟨w.heap.size, 0, none⟩) 1 1) [t] := by
 refine ⟨[cs], rfl, fun i c x h1 h2 => ?_, ?_, .inr ⟨w.heap.size, 1, cs.toArray, rfl, hb, heap_alloc_new w _, by simp, by decide, by simp [h.len], ?_⟩⟩
 · cases i with
   | zero =>
     simp at h1 h2
     subst h1 h2
     refine h.keep (by simp) (fun b hb hlt => ⟨⟨hb, ?_⟩, Below.heap_alloc _ _ _ hlt⟩)
     intro e
     simp [Value.ownBlock] at e
     omega
   | succ i => simp at h1
 · simp [h.len]
 · rw [List.length_singleton, Nat.one_mul, ← h.len]; simp
/- one more -/
theorem OwnT.snoc {fm : Bool} {w w' : World} {base : Nat} {v v' : Value} {l : List Tree} {cs : List Value} {t : Tree} {css : List (List Value)} (h1 : css.length = l.length)
 (h2 : ∀ (i : Nat) (cs : List Value) (t : Tree), css[i]? = some cs → l[i]? = some t → RdTree fm (fun b => base ≤ b ∧ v.ownBlock ≠ some b) w cs t) (hr : RdTree fm (fun b => base ≤ b ∧ v.ownBlock ≠ some b) w cs t)
 (hv : w'.ownsRow base (tE fm) (tsz fm) v' (l.length + 1) (css.flatten ++ cs)) (hg : w.grownBy w' v.ownBlock) (hb : v'.ownBlock = v.ownBlock ∨ v'.ownBlock = some w.heap.size) : OwnT fm w' base v' (l ++ [t]) := by
 have key : ∀ {c : List Value} {x : Tree}, RdTree fm (fun b => base ≤ b ∧ v.ownBlock ≠ some b) w c x → RdTree fm (fun b => base ≤ b ∧ v'.ownBlock ≠ some b) w' c x := fun hx =>
  hx.keep hg.size (fun b hb' hlt => ⟨⟨hb'.1, by rcases hb with e | e <;> rw [e]; exact hb'.2; intro e2; injection e2 with e2; omega⟩, hg.block b hlt (fun e => hb'.2 e.symm)⟩)
 refine ⟨css ++ [cs], by simp [h1], fun i c x a b => ?_, ?_⟩
 · rcases Nat.lt_or_ge i css.length with hi | hi
   · rw [List.getElem?_append_left hi] at a
     rw [List.getElem?_append_left (by omega)] at b
     exact key (h2 i c x a b)
   · rw [List.getElem?_append_right hi] at a
     rw [List.getElem?_append_right (by omega), ← h1] at b
     cases hq : i - css.length with
     | zero =>
       rw [hq] at a b
       simp at a b
       subst a b
       exact key hr
     | succ n => rw [hq] at a; simp at a
 · simpa using hv
theorem Eff.grown {p : Nat} {a w w' : World} {row : Option Nat} (h : Eff p a w) (hg : w.grownBy w' row) (hr : ∀ k, row = some k → a.heap.size ≤ k) : Eff p a w' :=
 ⟨hg.os.trans h.os, hg.tape.trans h.tape, hg.output.trans h.output, Nat.le_trans h.size hg.size, fun i hi hn => (hg.block i (Nat.lt_of_lt_of_le hi h.size) (fun e => by have := hr i e.symm; omega)).trans (h.block i hi hn)⟩
theorem PS.grown {w w' : World} {p fin : Nat} {l : List Tok} {row : Option Nat} (h : PS w p fin l) (hg : w.grownBy w' row) (hr : ∀ k, row = some k → p < k) : PS w' p fin l :=
 h.keep hg.size (fun b hb => hg.block b (Nat.lt_of_le_of_lt hb h.lt) (fun e => by have := hr b e.symm; omega))
theorem info_f : (Tryz.prog.info? 24).map (fun i => (i.zero, i.size, i.bytes)) = some (some (.agg #[.int .i64 0, .string ⟨#[]⟩, .int .i64 0, .int .i64 0, .slice none 0 0]), 5, 64) := by kernel_rfl
theorem wpList_append_f {ops : Array Oper} {rest : List Oper} {o : Oper} {a : Act} {w : World} {Q : Exit → Act → World → Prop} (hgd : o.guard = none) (s x : Operand) (hop : o.op = Op.call { callee := Callee.builtin Builtin.append, args := #[s, x], argTypes := #[22, 22] })
 (base : Nat) (v : Value) (l : List Tree) (g0 : Nat) (cs : List Value) (t : Tree) (hs : a.eval s = v) (hx : a.eval x = .slice (some ⟨g0, 0, none⟩) 1 1) (hown : OwnT true w base v l) (hcs : ∀ (j : Nat) u, cs[j]? = some u → w.cell? ⟨g0, 0 + j, none⟩ = some u) (hr : RdTree true (fun b => base ≤ b ∧ v.ownBlock ≠ some b) w cs t)
 (hlen : l.length + 1 ≤ 1000000) (hb : base ≤ w.heap.size) (h : ∀ v' w', OwnT true w' base v' (l ++ [t]) → w.grownBy w' v.ownBlock → wpList Tryz.prog ops Q rest (a.put o.dst v') w') : wpList Tryz.prog ops Q (o :: rest) a w := by
 obtain ⟨i0, hi0, hz0, hz1, hz2⟩ := info_parts info_f
 obtain ⟨css, h1, h2, h3⟩ := hown.is
 have e1 : tE true = 24 := rfl
 have e2 : tsz true = 5 := rfl
 have hl := hr.len
 rw [e1, e2] at h3
 refine wpList_append_own_at _ hgd s x _ hop base 24 i0 (.agg #[.int .i64 0, .string ⟨#[]⟩, .int .i64 0, .int .i64 0, .slice none 0 0]) 5 64 Tryz.underlying22 hi0 hz0 hz1 hz2 rfl (by decide) v l.length css.flatten hs h3 ⟨g0, 0, none⟩ 1 1 cs hx (by rw [hl, e2]) (fun j u hu => ?_) hr.one (by unfold maxLen; omega) (by omega) hb ?_
 · rw [Addr.add_lit]; exact hcs j u hu
 · intro v' w' ho hg _ hbk
   exact h v' w' (OwnT.snoc h1 h2 hr (by rw [e1, e2]; exact ho) hg hbk) hg
theorem info_s : (Tryz.prog.info? 28).map (fun i => (i.zero, i.size, i.bytes)) = some (some (.agg #[.int .i64 0, .string ⟨#[]⟩, .int .i64 0, .slice none 0 0]), 4, 56) := by kernel_rfl
theorem wpList_append_s {ops : Array Oper} {rest : List Oper} {o : Oper} {a : Act} {w : World} {Q : Exit → Act → World → Prop} (hgd : o.guard = none) (s x : Operand) (hop : o.op = Op.call { callee := Callee.builtin Builtin.append, args := #[s, x], argTypes := #[26, 26] })
 (base : Nat) (v : Value) (l : List Tree) (g0 : Nat) (cs : List Value) (t : Tree) (hs : a.eval s = v) (hx : a.eval x = .slice (some ⟨g0, 0, none⟩) 1 1) (hown : OwnT false w base v l) (hcs : ∀ (j : Nat) u, cs[j]? = some u → w.cell? ⟨g0, 0 + j, none⟩ = some u) (hr : RdTree false (fun b => base ≤ b ∧ v.ownBlock ≠ some b) w cs t)
 (hlen : l.length + 1 ≤ 1000000) (hb : base ≤ w.heap.size) (h : ∀ v' w', OwnT false w' base v' (l ++ [t]) → w.grownBy w' v.ownBlock → wpList Tryz.prog ops Q rest (a.put o.dst v') w') : wpList Tryz.prog ops Q (o :: rest) a w := by
 obtain ⟨i0, hi0, hz0, hz1, hz2⟩ := info_parts info_s
 obtain ⟨css, h1, h2, h3⟩ := hown.is
 have e1 : tE false = 28 := rfl
 have e2 : tsz false = 4 := rfl
 have hl := hr.len
 rw [e1, e2] at h3
 refine wpList_append_own_at _ hgd s x _ hop base 28 i0 (.agg #[.int .i64 0, .string ⟨#[]⟩, .int .i64 0, .slice none 0 0]) 4 56 Tryz.underlying26 hi0 hz0 hz1 hz2 rfl (by decide) v l.length css.flatten hs h3 ⟨g0, 0, none⟩ 1 1 cs hx (by rw [hl, e2]) (fun j u hu => ?_) hr.one (by unfold maxLen; omega) (by omega) hb ?_
 · rw [Addr.add_lit]; exact hcs j u hu
 · intro v' w' ho hg _ hbk
   exact h v' w' (OwnT.snoc h1 h2 hr (by rw [e1, e2]; exact ho) hg hbk) hg
end Go.Proofs.YtbicmjmcdnkjhaaGreatDoor
