/- One word of several; a word that must be there. -/
import Derived.Test.YtpagkakplmeokaaDoorNTake
set_option linter.unusedVariables false
set_option linter.unusedSimpArgs false
namespace Go.Proofs.YtpagkakplmeokaaDoor
open Go.RowKit
theorem row_setCell {w : World} {g o : Nat} {cur : Array Value} {t : TypeId} {u : Value} (hh : w.heap[g]? = some (.cells cur t (0, 0))) : (w.setCell ⟨g, o, none⟩ u).heap[g]? = some (.cells (cur.setIfInBounds o u) t (0, 0)) := by
  simp [World.setCell, Array.getElem?_modify, hh]
/- one token is consumed -/
theorem PS.step {w w1 : World} {p fin : Nat} {t : Tok} {l : List Tok} {b o c : Nat} (h : PS w p fin (t :: l)) (hh : w.heap[p]? = some (.cells #[.slice (some ⟨b, o, none⟩) (l.length + 1) c, .int .i64 fin] 68 (0, 0)))
    (hr : RdT w (some ⟨b, o, none⟩) (t :: l)) (hn : b < p) (h1 : l.length + 1 ≤ c) (h2 : c ≤ 9223372036854775807) (hb : Below w.heap.size w w1) (A' : Option Addr) (c' : Nat) (hc' : c' = c - 1) (hA : A' = some ⟨b, o + 4, none⟩ ∨ (c = 1 ∧ A' = some ⟨b, o, none⟩)) (x : Obj) :
    PS ((w1.setCell ⟨p, 0, none⟩ (.slice A' l.length c')).alloc x) p fin l ∧ Eff p w ((w1.setCell ⟨p, 0, none⟩ (.slice A' l.length c')).alloc x) := by
  subst hc'
  have he : Eff p w (w1.setCell ⟨p, 0, none⟩ (.slice A' l.length (c - 1))) := (Eff.of_below hb).setCell ⟨p, 0, none⟩ (.inl rfl) _
  have hlt := lt_of_heap' hh
  have hps : PS (w1.setCell ⟨p, 0, none⟩ (.slice A' l.length (c - 1))) p fin l := by
    refine ⟨⟨A', c - 1, ?_, ?_, ?_, by omega, by omega⟩, fun x hx => h.fit x (by simp [hx]), ?_, h.ne, h.bound⟩
    · have := row_setCell (o := 0) (u := .slice A' l.length (c - 1)) ((hb.block p hlt).trans hh)
      rw [this]; rfl
    · rcases hA with rfl | ⟨hc1, rfl⟩
      · exact Sl.keep (hr.tail) he.size (fun b' o' hA hlt' => by cases hA; exact he.block _ hlt' (by omega))
      · have : l = [] := by
          cases l with
          | nil => rfl
          | cons x y => simp at h1; omega
        subst this; exact Sl.nil
    · intro b' o' hA'
      rcases hA with rfl | ⟨-, rfl⟩
      · cases hA'; exact hn
      · cases hA'; exact hn
    · obtain ⟨m, hm⟩ := h.mx
      exact ⟨m, he.cell hm (by have := h.ne; omega)⟩
  exact ⟨hps.below ((Below.refl _ _).alloc (Nat.le_refl _) _), he.alloc _⟩
set_option maxRecDepth 20000 in
set_option maxHeartbeats 400000 in
theorem take_nil (ws : List (List UInt8)) (W : Option Addr) (cw : Nat) (p fin : Nat) (w : World) (hp : PS w p fin []) :
    Calls Tryd.prog 40 #[.pointer (some ⟨p, 0, none⟩), .slice W ws.length cw] w fun e w' => e = .returned (.int .i64 (-1)) ∧ Below w.heap.size w w' := by
  have HP := Lib.hid hp
  clear hp
  go_enter Tryd.func40, Tryd.ntmps40
  go_wp2_with (go_at_call 53; refine (next_nil p fin _ HP.out).mono ?_; rintro e w1 ⟨rfl, hb1⟩)
  go_ret
  exact ⟨rfl, hb1.alloc hb1.size _⟩
set_option maxRecDepth 20000 in
set_option maxHeartbeats 400000 in
theorem take_num (ws : List (List UInt8)) (W : Option Addr) (cw : Nat) (p fin : Nat) (t : Tok) (l : List Tok) (w : World) (hp : PS w p fin (t :: l)) (hk : t.kind = 2) :
    Calls Tryd.prog 40 #[.pointer (some ⟨p, 0, none⟩), .slice W ws.length cw] w fun e w' => e = .returned (.int .i64 (-1)) ∧ Below w.heap.size w w' := by
  have HP := Lib.hid hp
  have k1 : ((t.kind : Int) != 1) = true := by simp [hk]
  have k3 : ((t.kind : Int) != 3) = true := by simp [hk]
  clear hp hk
  go_enter Tryd.func40, Tryd.ntmps40
  go_wp2_with (go_at_call 53; refine (next_cons p fin t l _ HP.out).mono ?_; rintro e w1 ⟨rfl, hb1⟩)
  go_ret
  exact ⟨rfl, hb1.alloc hb1.size _⟩
set_option maxRecDepth 20000 in
set_option maxHeartbeats 400000 in
theorem take_other (ws : List (List UInt8)) (W : Option Addr) (cw : Nat) (p fin : Nat) (t : Tok) (l : List Tok) (w : World) (hp : PS w p fin (t :: l)) (hk : t.kind = 1 ∨ t.kind = 3) (hr : RdS w W ws) (hl : ws.length ≤ 100) (hi : ixS ws t.text = none) :
    Calls Tryd.prog 40 #[.pointer (some ⟨p, 0, none⟩), .slice W ws.length cw] w fun e w' => e = .returned (.int .i64 (-1)) ∧ Below w.heap.size w w' := by
  have HP := Lib.hid hp
  have HR := Lib.hid hr
  have HI := Lib.hid hi
  clear hp hr hi
  have key : (((t.kind : Int) != 1) = false ∧ ((t.kind : Int) != 3) = true) ∨ (((t.kind : Int) != 1) = true ∧ ((t.kind : Int) != 3) = false) := by rcases hk with h | h <;> simp [h]
  clear hk
  rcases key with ⟨k1, k3⟩ | ⟨k1, k3⟩
  all_goals
    go_enter Tryd.func40, Tryd.ntmps40
    go_wp2_with (go_at_call 53; refine (next_cons p fin t l _ HP.out).mono ?_; rintro e w1 ⟨rfl, hb1⟩)
    refine (indexS_any ws W cw t.text _ (HR.out.below (hb1.alloc hb1.size _)) (by unfold maxLen; omega)).mono ?_
    rintro e w2 ⟨rfl, rfl⟩
    rw [HI.out]
    go_wp2_with fail
    go_ret
    exact ⟨rfl, hb1.alloc hb1.size _⟩
set_option maxRecDepth 20000 in
set_option maxHeartbeats 400000 in
theorem take_yes (ws : List (List UInt8)) (W : Option Addr) (cw : Nat) (p fin : Nat) (t : Tok) (l : List Tok) (w : World) (hp : PS w p fin (t :: l)) (hk : t.kind = 1 ∨ t.kind = 3) (hr : RdS w W ws) (hl : ws.length ≤ 100) (i : Nat) (hi : ixS ws t.text = some i) :
    Calls Tryd.prog 40 #[.pointer (some ⟨p, 0, none⟩), .slice W ws.length cw] w fun e w' => e = .returned (.int .i64 i) ∧ PS w' p fin l ∧ Eff p w w' := by
  have HP := Lib.hid hp
  have HR := Lib.hid hr
  have HI := Lib.hid hi
  obtain ⟨A, c, hh, hrt, hn, h1, h2⟩ := hp.is
  obtain ⟨b, o, rfl, hb, -, -, -, -, -⟩ := hrt.head
  have hn := hn b o rfl
  simp only [List.length_cons] at hh h1
  have HH := Lib.hid hh
  have c0 := cell_of_blk (o := 0) hh rfl
  have f0 := frozen_of_blk (o := 0) hh
  have hlt := lt_of_heap' hh
  clear hp hr hi hh
  have key : (((t.kind : Int) != 1) = false ∧ ((t.kind : Int) != 3) = true) ∨ (((t.kind : Int) != 1) = true ∧ ((t.kind : Int) != 3) = false) := by rcases hk with h | h <;> simp [h]
  clear hk
  have hc1 : (1 : Int) ≤ (l.length : Int) + 1 := by omega
  have hc2 : ((l.length : Int) + 1) ≤ c := by omega
  by_cases hc : c = 1
  all_goals
    rcases key with ⟨k1, k3⟩ | ⟨k1, k3⟩
    all_goals
      go_enter Tryd.func40, Tryd.ntmps40
      go_wp2_with (go_at_call 53; refine (next_cons p fin t l _ HP.out).mono ?_; rintro e w1 ⟨rfl, hb1⟩)
      refine (indexS_any ws W cw t.text _ (HR.out.below (hb1.alloc hb1.size _)) (by unfold maxLen; omega)).mono ?_
      rintro e w2 ⟨rfl, rfl⟩
      rw [HI.out]
      have d0 := (hb1.cell (p := ⟨p, 0, none⟩) hlt).trans c0
      have df := (hb1.frozen (p := ⟨p, 0, none⟩) hlt).trans f0
      have dl := World.block_lt_of_cell? _ _ d0
      go_wp2_with fail
      go_ret
      exact ⟨rfl, HP.out.step HH.out hrt hn h1 h2 hb1 _ _ (by omega) (by first | exact .inl rfl | exact .inr ⟨hc, rfl⟩) _⟩
/- take, whatever the next token -/
theorem TokFit.word {t : Tok} (h : TokFit t) : (isWord t = true ∧ (t.kind = 1 ∨ t.kind = 3)) ∨ (isWord t = false ∧ t.kind = 2) := by
  rcases h.kind with hk | hk | hk <;> simp [isWord, hk]
theorem take_no (ws : List (List UInt8)) (W : Option Addr) (cw : Nat) (p fin : Nat) (l : List Tok) (w : World) (hp : PS w p fin l) (hr : RdS w W ws) (hl : ws.length ≤ 100) (hi : takeF ws l = (none, l)) :
    Calls Tryd.prog 40 #[.pointer (some ⟨p, 0, none⟩), .slice W ws.length cw] w fun e w' => e = .returned (.int .i64 (-1)) ∧ Below w.heap.size w w' := by
  cases l with
  | nil => exact take_nil ws W cw p fin w hp
  | cons t r =>
    rcases (hp.fit t (by simp)).word with ⟨h1, h2⟩ | ⟨h1, h2⟩
    · refine take_other ws W cw p fin t r w hp h2 hr hl ?_
      rw [ixS_eq]
      simp only [takeF, h1, if_true] at hi
      cases hq : ws.idxOf? t.text with
      | none => rfl
      | some i => rw [hq] at hi; simp at hi
    · exact take_num ws W cw p fin t r w hp h2
theorem take_some (ws : List (List UInt8)) (W : Option Addr) (cw : Nat) (p fin : Nat) (t : Tok) (l : List Tok) (w : World) (hp : PS w p fin (t :: l)) (hr : RdS w W ws) (hl : ws.length ≤ 100) (i : Nat) (hi : takeF ws (t :: l) = (some i, l)) :
    Calls Tryd.prog 40 #[.pointer (some ⟨p, 0, none⟩), .slice W ws.length cw] w fun e w' => e = .returned (.int .i64 i) ∧ PS w' p fin l ∧ Eff p w w' := by
  rcases (hp.fit t (by simp)).word with ⟨h1, h2⟩ | ⟨h1, h2⟩
  · refine take_yes ws W cw p fin t l w hp h2 hr hl i ?_
    rw [ixS_eq]
    simp only [takeF, h1, if_true] at hi
    cases hq : ws.idxOf? t.text with
    | none => rw [hq] at hi; simp at hi
    | some j => rw [hq] at hi; simp at hi; rw [hi]
  · simp [takeF, h1] at hi
end Go.Proofs.YtpagkakplmeokaaDoor
