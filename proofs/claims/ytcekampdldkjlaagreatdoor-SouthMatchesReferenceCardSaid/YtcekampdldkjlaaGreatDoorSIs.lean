/- Words, names and numbers. -/
import Derived.Test.YtcekampdldkjlaaGreatDoorSPeek
import Derived.Test.YtcekampdldkjlaaGreatDoorNKeys
import Derived.Test.YtcekampdldkjlaaGreatDoorShelf
import Derived.BigQuiet
import Derived.IntWalk
import Derived.Deep.CutRange
import Derived.Deep.QuietTactic
set_option linter.unusedVariables false
set_option linter.unusedSimpArgs false
namespace Go.Proofs.YtcekampdldkjlaaGreatDoor
open Go.RowKit
theorem ixS_neg {l : List (List UInt8)} {s : List UInt8} (h : l.contains s = false) : ixS l s = none := by
  unfold ixS
  rw [List.findIdx?_eq_none_iff]
  intro x hx
  cases hb : (s == x) with
  | false => rfl
  | true =>
    have : s = x := by simpa using hb
    subst this
    simp at h
    exact absurd hx h
theorem ixS_pos {l : List (List UInt8)} {s : List UInt8} (h : l.contains s = true) : ∃ i, ixS l s = some i := by
  cases hi : ixS l s with
  | some i => exact ⟨i, rfl⟩
  | none =>
    unfold ixS at hi
    rw [List.findIdx?_eq_none_iff] at hi
    simp at h
    have := hi s h
    simp at this
set_option maxRecDepth 20000 in
set_option maxHeartbeats 400000 in
theorem containsS_any (l : List (List UInt8)) (A : Option Addr) (c : Nat) (s : List UInt8) (w : World) (hr : RdS w A l) (hl : l.length ≤ 1000) :
    Calls Tryz.prog 58 #[.slice A l.length c, vs s] w fun e w' => e = .returned (.bool (l.contains s)) ∧ w = w' := by
  have HR := Lib.hid hr
  clear hr
  cases hc : l.contains s with
  | true =>
    obtain ⟨i, hi⟩ := ixS_pos hc
    have HI := Lib.hid hi
    have h0 : (0 : Int) ≤ i := by omega
    clear hi hc
    go_enter Tryz.func58, Tryz.ntmps58
    go_wp2_with fail
    refine (indexS_any l A c s _ HR.out (by unfold maxLen; omega)).mono ?_
    rintro e w1 ⟨rfl, rfl⟩
    rw [HI.out]
    go_wp2_with fail
    go_ret
    exact ⟨rfl, rfl⟩
  | false =>
    have HI := Lib.hid (ixS_neg hc)
    clear hc
    go_enter Tryz.func58, Tryz.ntmps58
    go_wp2_with fail
    refine (indexS_any l A c s _ HR.out (by unfold maxLen; omega)).mono ?_
    rintro e w1 ⟨rfl, rfl⟩
    rw [HI.out]
    go_wp2_with fail
    go_ret
    exact ⟨rfl, rfl⟩
theorem keys_bytes (s : List UInt8) : ((⟨#[32]⟩ : ByteArray) ++ ⟨s.toArray⟩ ++ ⟨#[32]⟩).data.toList = 32 :: (s ++ [32]) := by
  simp [ByteArray.data_append]
set_option maxRecDepth 20000 in
theorem contains_key (B : ByteArray) (s : List UInt8) (w : World) (hB : B.data.toList = keysT keyWords) (hs : ∀ c ∈ s, c ≠ 32) (hm : ∃ m, w.cell? ⟨2, 0, none⟩ = some (.int .i64 m)) :
    Calls Tryz.prog 76 #[.string B, .string ((⟨#[32]⟩ : ByteArray) ++ ⟨s.toArray⟩ ++ ⟨#[32]⟩)] w fun e w' => e = .returned (.bool (keyF s)) ∧ w = w' := by
  obtain ⟨m, hm⟩ := hm
  have hsz : B.size < 4294967281 := by
    have h1 : B.data.toList.length ≤ 1000 := by rw [hB]; decide
    have h2 : B.size = B.data.toList.length := (Array.length_toList).symm
    omega
  refine (Tryz.strings_Contains B _ m w hsz hm).mono ?_
  rintro e w' ⟨rfl, rfl⟩
  rw [hB, keys_bytes, key_contains s hs]
  exact ⟨rfl, rfl⟩
structure Off (b : Nat) (w w' : World) : Prop where
  os : w'.os = w.os
  tape : w'.tape = w.tape
  output : w'.output = w.output
  size : w'.heap.size = w.heap.size
  block : ∀ k, k ≠ b → w'.heap[k]? = w.heap[k]?
theorem Off.refl (b : Nat) (w : World) : Off b w w := ⟨rfl, rfl, rfl, rfl, fun _ _ => rfl⟩
theorem Off.set {b o : Nat} {w w' : World} (h : Off b w w') (v : Value) : Off b w (w'.setCell ⟨b, o, none⟩ v) :=
  ⟨h.os, h.tape, h.output, by have := h.size; simpa using this, fun k hk => (Below.heap_setCell _ _ _ _ (by simpa using hk)).trans (h.block k hk)⟩
theorem Eff.off {p b : Nat} {w w1 w2 : World} (h : Eff p w w1) (ho : Off b w1 w2) (hb : w.heap.size ≤ b) : Eff p w w2 :=
  ⟨ho.os.trans h.os, ho.tape.trans h.tape, ho.output.trans h.output, by rw [ho.size]; exact h.size, fun k hk hn => (ho.block k (by omega)).trans (h.block k hk hn)⟩
theorem PS.off {p b fin : Nat} {ts l : List Tok} {w w' : World} (h : PS w p fin ts l) (ho : Off b w w') (hb : p < b) : PS w' p fin ts l :=
  h.keep (Nat.le_of_eq ho.size.symm) (fun k hk => ho.block k (by omega))
theorem RdS.new {w : World} {b : Nat} {ss : List (List UInt8)} {t : TypeId} (h : w.heap[b]? = some (.cells (ss.map vs).toArray t (0, 0))) : RdS w (some ⟨b, 0, none⟩) ss := by
  intro hne
  refine ⟨b, 0, rfl, lt_of_heap' h, fun k x hx j v hv => ?_⟩
  cases j with
  | succ j => simp at hv
  | zero =>
    simp at hv
    subst hv
    refine cell_of_blk h ?_
    simp [hx]
theorem sees_headT (ws : List (List UInt8)) (fin : Nat) (l : List Tok) : seesF ws l = (((headT fin l).kind == 1 || (headT fin l).kind == 3) && ws.contains (headT fin l).text) := by
  cases l with
  | nil => rfl
  | cons t r => rfl
set_option maxRecDepth 20000 in
set_option maxHeartbeats 400000 in
theorem sees_any (ws : List (List UInt8)) (W : Option Addr) (cw : Nat) (p fin : Nat) (ts l : List Tok) (w : World) (hp : PS w p fin ts l) (hr : RdS w W ws) (hl : ws.length ≤ 1000) :
    Calls Tryz.prog 47 #[.pointer (some ⟨p, 0, none⟩), .slice W ws.length cw] w fun e w' => e = .returned (.bool (seesF ws l)) ∧ Below w.heap.size w w' := by
  have HP := Lib.hid hp
  have HR := Lib.hid hr
  have HS := Lib.hid (sees_headT ws fin l)
  clear hp hr
  go_enter Tryz.func47, Tryz.ntmps47
  go_wp2_with fail
  refine (peek_any p fin ts l _ HP.out).mono ?_
  rintro e w1 ⟨rfl, hb1⟩
  generalize headT fin l = T at HS ⊢
  have HB2 := Lib.hid (hb1.alloc hb1.size (.cells #[.int .i64 T.kind, vs T.text, .int .i64 T.n, .int .i64 T.pos] 55 (0, 0)))
  have HR2 := Lib.hid (HR.out.below HB2.out)
  have hx := heap_alloc_new w1 (.cells #[.int .i64 T.kind, vs T.text, .int .i64 T.n, .int .i64 T.pos] 55 (0, 0))
  clear hb1
  simp only [Tok.agg]
  go_upto_region 2 with fail
  generalize w1.alloc (.cells #[.int .i64 T.kind, vs T.text, .int .i64 T.n, .int .i64 T.pos] 55 (0, 0)) = w2 at HB2 HR2 hx ⊢
  have d0 := cell_of_blk (o := 0) hx rfl
  have d1 := cell_of_blk (o := 1) hx rfl
  have dl := lt_of_heap' hx
  clear hx
  by_cases h1 : T.kind = 1
  · rw [h1] at d0
    have HE : Hid (seesF ws l = ws.contains T.text) := Lib.hid (by rw [HS.out, h1]; rfl)
    clear h1
    go_wp2_with fail
    refine (containsS_any ws W cw T.text w2 HR2.out hl).mono ?_
    rintro e w3 ⟨rfl, rfl⟩
    generalize ws.contains T.text = B at HE ⊢
    go_wp2_with fail
    go_ret
    exact ⟨by rw [HE.out]; rfl, HB2.out⟩
  · by_cases h3 : T.kind = 3
    · rw [h3] at d0
      have HE : Hid (seesF ws l = ws.contains T.text) := Lib.hid (by rw [HS.out, h3]; rfl)
      clear h3 h1
      go_wp2_with fail
      refine (containsS_any ws W cw T.text w2 HR2.out hl).mono ?_
      rintro e w3 ⟨rfl, rfl⟩
      generalize ws.contains T.text = B at HE ⊢
      go_wp2_with fail
      go_ret
      exact ⟨by rw [HE.out]; rfl, HB2.out⟩
    · have HE : Hid (seesF ws l = false) := Lib.hid (by rw [HS.out]; simp [h1, h3])
      have i1 : ((T.kind : Int) == 1) = false := by simp; omega
      have i3 : ((T.kind : Int) == 3) = false := by simp; omega
      clear h1 h3
      go_wp2_with fail
      go_ret
      exact ⟨by rw [HE.out]; rfl, HB2.out⟩
/- what a consumed token makes of the parser's block -/
theorem PS.step {w w1 : World} {p fin : Nat} {ts : List Tok} {t : Tok} {l : List Tok} (h : PS w p fin ts (t :: l)) (hb : Below w.heap.size w w1) {A : Option Addr} {c : Nat} {u : List Tok}
    (hh : w.heap[p]? = some (.cells #[.slice A ts.length c, .int .i64 (u.length : Nat), .int .i64 fin] 44 (0, 0))) (hu : ts = u ++ t :: l) (hr : RdT w A ts) (hn : ∀ b o, A = some ⟨b, o, none⟩ → b < p) (h1 : ts.length ≤ c) (h2 : c ≤ 9223372036854775807) {i : Int} (hi : i = ((u.length + 1 : Nat) : Int)) :
    PS (w1.setCell ⟨p, 1, none⟩ (.int .i64 i)) p fin ts l ∧ Eff p w (w1.setCell ⟨p, 1, none⟩ (.int .i64 i)) := by
  subst hi
  have he : Eff p w (w1.setCell ⟨p, 1, none⟩ (.int .i64 ((u.length + 1 : Nat) : Int))) := (Eff.of_below hb).setCell ⟨p, 1, none⟩ (.inl rfl) _
  obtain ⟨m, hm⟩ := h.mx
  refine ⟨⟨⟨A, c, u ++ [t], ?_, by rw [hu]; simp, Sl.keep hr he.size (fun b o hA hlt => he.block _ hlt (Nat.ne_of_lt (hn b o hA))), hn, h1, h2⟩, h.fit, h.few, ⟨m, he.cell hm (Nat.ne_of_lt h.ne)⟩, h.ne, h.bound⟩, he⟩
  rw [row_setCell (o := 1) (u := .int .i64 ((u.length + 1 : Nat) : Int)) ((hb.block p (lt_of_heap' hh)).trans hh)]
  simp
set_option maxRecDepth 20000 in
set_option maxHeartbeats 400000 in
theorem is_no (s : List UInt8) (p fin : Nat) (ts l : List Tok) (w : World) (hp : PS w p fin ts l) (hs : seesF [s] l = false) :
    Calls Tryz.prog 25 #[.pointer (some ⟨p, 0, none⟩), vs s] w fun e w' => e = .returned (.bool false) ∧ Below w.heap.size w w' := by
  have HP := Lib.hid (hp.below ((Below.refl _ _).alloc (Nat.le_refl _) (.cells #[vs s] 9 (0, 0))))
  have HR : Hid (RdS (w.alloc (.cells #[vs s] 9 (0, 0))) (some ⟨w.heap.size, 0, none⟩) [s]) := Lib.hid (RdS.new (heap_alloc_new w _))
  have HS := Lib.hid hs
  clear hp hs
  go_enter Tryz.func25, Tryz.ntmps25
  go_wp2_with fail
  refine (sees_any [s] _ 1 p fin ts l _ HP.out HR.out (by simp)).mono ?_
  rintro e w1 ⟨rfl, hb1⟩
  rw [HS.out]
  have HB := Lib.hid (((Below.refl _ _).alloc (Nat.le_refl _) (.cells #[vs s] 9 (0, 0))).trans (hb1.mono (by simp)))
  clear hb1
  go_wp2_with fail
  go_ret
  exact ⟨rfl, HB.out⟩
set_option maxRecDepth 20000 in
set_option maxHeartbeats 400000 in
theorem is_yes (s : List UInt8) (p fin : Nat) (ts l : List Tok) (w : World) (hp : PS w p fin ts l) (hs : seesF [s] l = true) :
    Calls Tryz.prog 25 #[.pointer (some ⟨p, 0, none⟩), vs s] w fun e w' => e = .returned (.bool true) ∧ PS w' p fin ts l.tail ∧ Eff p w w' := by
  have HP0 := Lib.hid hp
  have HP := Lib.hid (hp.below ((Below.refl _ _).alloc (Nat.le_refl _) (.cells #[vs s] 9 (0, 0))))
  have HR : Hid (RdS (w.alloc (.cells #[vs s] 9 (0, 0))) (some ⟨w.heap.size, 0, none⟩) [s]) := Lib.hid (RdS.new (heap_alloc_new w _))
  have HS := Lib.hid hs
  clear hp hs
  go_enter Tryz.func25, Tryz.ntmps25
  go_wp2_with fail
  refine (sees_any [s] _ 1 p fin ts l _ HP.out HR.out (by simp)).mono ?_
  rintro e w1 ⟨rfl, hb1⟩
  rw [HS.out]
  have HB : Hid (Below w.heap.size w w1) := Lib.hid (((Below.refl _ _).alloc (Nat.le_refl _) (.cells #[vs s] 9 (0, 0))).trans (hb1.mono (by simp)))
  clear hb1
  cases l with
  | nil => exact absurd HS.out (by simp [seesF])
  | cons t r =>
    obtain ⟨A, c, u, hh, hu, hr, hn, h1, h2⟩ := HP0.out.is
    have HST := Lib.hid (fun i hi => PS.step HP0.out HB.out hh hu hr hn h1 h2 (i := i) hi)
    have hk := (HB.out.block _ (lt_of_heap' hh)).trans hh
    have c1 : w1.cell? ⟨p, 1, none⟩ = some (.int .i64 u.length) := cell_of_blk (o := 1) hk rfl
    have f1 := frozen_of_blk (o := 1) hk
    have dl := lt_of_heap' hk
    have hlen : u.length < 5000 := by have := HP0.out.few; rw [hu] at this; simp at this; omega
    clear hh hu hr hn hk h1 h2
    go_wp2_with fail
    go_ret
    exact ⟨rfl, HST.out _ (by simp)⟩
/- what a function of the parser answers -/
def OutR {α : Type} (p fin : Nat) (ts : List Tok) (w : World) (res : R α) (V : α → Value → World → Prop) (e : Ending) (w' : World) : Prop :=
  match res with
  | .ok (x, r) => ∃ v, e = .returned v ∧ V x v w' ∧ PS w' p fin ts r ∧ Eff p w w'
  | .error (er, s) => e = stopE er (posAt fin s) ∧ Eff p w w'
abbrev UnitV : Unit → Value → World → Prop := fun _ v _ => v = .tuple #[]
set_option maxRecDepth 20000 in
set_option maxHeartbeats 400000 in
theorem must_any (s : List UInt8) (p fin : Nat) (ts l : List Tok) (w : World) (hp : PS w p fin ts l) :
    Calls Tryz.prog 28 #[.pointer (some ⟨p, 0, none⟩), vs s] w (OutR p fin ts w (mustF s l) UnitV) := by
  have HP := Lib.hid hp
  clear hp
  cases hs : seesF [s] l with
  | true =>
    have HS := Lib.hid hs
    rw [show mustF s l = .ok ((), l.tail) by unfold mustF isF; rw [hs]; rfl]
    clear hs
    go_enter Tryz.func28, Tryz.ntmps28
    go_wp2_with fail
    refine (is_yes s p fin ts l _ HP.out HS.out).mono ?_
    rintro e w1 ⟨rfl, hp1, he1⟩
    go_wp2_with fail
    go_end0
    exact ⟨_, rfl, rfl, hp1, he1⟩
  | false =>
    have HS := Lib.hid hs
    rw [show mustF s l = .error (failC l, l) by unfold mustF isF; rw [hs]; rfl]
    clear hs
    go_enter Tryz.func28, Tryz.ntmps28
    go_wp2_with fail
    refine (is_no s p fin ts l _ HP.out HS.out).mono ?_
    rintro e w1 ⟨rfl, hb1⟩
    have HB1 := Lib.hid hb1
    have HP1 := Lib.hid (HP.out.below hb1)
    clear hb1
    go_wp2_with fail
    refine (fail_any p fin ts l _ HP1.out).mono ?_
    rintro e w2 ⟨rfl, hb2⟩
    have HB2 := Lib.hid (HB1.out.trans (hb2.mono HB1.out.size))
    clear hb2
    go_wp2_with fail
    exact ⟨rfl, rfl, Eff.of_below HB2.out⟩

theorem isName_head (fin : Nat) (l : List Tok) : isNameF l = ((headT fin l).kind == 1 && !keyF (headT fin l).text) := by
  cases l with
  | nil => rfl
  | cons t r => rfl
theorem headT_fit {w : World} {p fin : Nat} {ts l : List Tok} (h : PS w p fin ts l) : (headT fin l).text.length ≤ 30 ∧ ((headT fin l).kind = 1 → ∀ c ∈ (headT fin l).text, c ≠ 32) := by
  cases l with
  | nil => exact ⟨by simp [headT], fun hk => absurd hk (by simp [headT])⟩
  | cons t r =>
    obtain ⟨A, c, u, -, hu, -⟩ := h.is
    have := h.fit t (by rw [hu]; simp)
    exact ⟨this.len, this.nospace⟩
set_option maxRecDepth 20000 in
set_option maxHeartbeats 800000 in
theorem isName_any (p fin : Nat) (ts l : List Tok) (w : World) (hp : PS w p fin ts l) :
    Calls Tryz.prog 50 #[.pointer (some ⟨p, 0, none⟩)] w fun e w' => e = .returned (.bool (isNameF l)) ∧ Below w.heap.size w w' := by
  have HP := Lib.hid hp
  have HS := Lib.hid (isName_head fin l)
  have HF := Lib.hid (headT_fit hp)
  clear hp
  go_enter Tryz.func50, Tryz.ntmps50
  go_wp2_with fail
  refine (peek_any p fin ts l _ HP.out).mono ?_
  rintro e w1 ⟨rfl, hb1⟩
  generalize headT fin l = T at HS HF ⊢
  have HB2 := Lib.hid (hb1.alloc hb1.size (.cells #[.int .i64 T.kind, vs T.text, .int .i64 T.n, .int .i64 T.pos] 55 (0, 0)))
  have HM := Lib.hid ((HP.out.below HB2.out).mx)
  have hx := heap_alloc_new w1 (.cells #[.int .i64 T.kind, vs T.text, .int .i64 T.n, .int .i64 T.pos] 55 (0, 0))
  clear hb1
  simp only [Tok.agg]
  go_upto_region 2 with fail
  generalize w1.alloc (.cells #[.int .i64 T.kind, vs T.text, .int .i64 T.n, .int .i64 T.pos] 55 (0, 0)) = w2 at HB2 HM hx ⊢
  have d0 := cell_of_blk (o := 0) hx rfl
  have d1 := cell_of_blk (o := 1) hx rfl
  have dl := lt_of_heap' hx
  obtain ⟨hlen, hsp⟩ := HF.out
  have HSP := Lib.hid hsp
  clear hx hsp
  have q1 : ¬ 9223372036854775807 < 1 + T.text.length := by omega
  have q2 : ¬ 9223372036854775807 < 1 + T.text.length + 1 := by omega
  by_cases h1 : T.kind = 1
  · rw [h1] at d0
    have HE : Hid (isNameF l = !keyF T.text) := Lib.hid (by rw [HS.out, h1]; rfl)
    have HSP2 := Lib.hid (HSP.out h1)
    clear h1
    go_wp2_with fail
    refine (contains_key _ T.text w2 (by kernel_rfl) HSP2.out HM.out).mono ?_
    rintro e w3 ⟨rfl, rfl⟩
    generalize keyF T.text = B at HE ⊢
    go_wp2_with fail
    go_ret
    exact ⟨by rw [HE.out]; rfl, HB2.out⟩
  · have HE : Hid (isNameF l = false) := Lib.hid (by rw [HS.out]; simp [h1])
    have i1 : ((T.kind : Int) == 1) = false := by simp; omega
    clear h1
    go_wp2_with fail
    go_ret
    exact ⟨by rw [HE.out]; rfl, HB2.out⟩

set_option maxRecDepth 20000 in
set_option maxHeartbeats 800000 in
theorem name_no (p fin : Nat) (ts l : List Tok) (w : World) (hp : PS w p fin ts l) (hs : isNameF l = false) :
    Calls Tryz.prog 27 #[.pointer (some ⟨p, 0, none⟩)] w fun e w' => e = stopE (failC l) (posAt fin l) ∧ Below w.heap.size w w' := by
  have HS := Lib.hid hs
  have HP := Lib.hid (hp.below ((Below.refl _ _).alloc (Nat.le_refl _) zTok))
  clear hp hs
  go_enter Tryz.func27, Tryz.ntmps27
  go_wp2_with fail
  refine (isName_any p fin ts l _ HP.out).mono ?_
  rintro e w1 ⟨rfl, hb1⟩
  rw [HS.out]
  have HB1 := Lib.hid hb1
  clear hb1
  have HP2 := Lib.hid (HP.out.below HB1.out)
  go_wp2_with fail
  refine (fail_any p fin ts l _ HP2.out).mono ?_
  rintro e w2 ⟨rfl, hb2⟩
  have HB2 := Lib.hid (((Below.refl _ _).alloc (Nat.le_refl _) zTok).trans ((HB1.out.trans (hb2.mono HB1.out.size)).mono (by simp)))
  clear hb2
  go_wp2_with fail
  exact ⟨rfl, rfl, HB2.out⟩
set_option maxRecDepth 20000 in
set_option maxHeartbeats 1600000 in
theorem name_ok (p fin : Nat) (ts : List Tok) (t : Tok) (l : List Tok) (w : World) (hp : PS w p fin ts (t :: l)) (hs : isNameF (t :: l) = true) :
    Calls Tryz.prog 27 #[.pointer (some ⟨p, 0, none⟩)] w fun e w' => e = .returned t.agg ∧ PS w' p fin ts l ∧ Eff p w w' := by
  have HS := Lib.hid hs
  have HP0 := Lib.hid hp
  have hpl := hp.lt
  have hal : Below w.heap.size w (w.alloc zTok) := (Below.refl _ _).alloc (Nat.le_refl _) _
  have HX0 := Lib.hid (heap_alloc_new w zTok)
  have HP := Lib.hid (hp.below hal)
  have HAL := Lib.hid hal
  clear hp hs hal
  go_enter Tryz.func27, Tryz.ntmps27
  go_wp2_with fail
  generalize w.alloc zTok = w0 at HX0 HP HAL ⊢
  refine (isName_any p fin ts (t :: l) _ HP.out).mono ?_
  rintro e w1 ⟨rfl, hb1⟩
  rw [HS.out]
  have HB1 := Lib.hid hb1
  clear hb1
  have HB : Hid (Below w.heap.size w w1) := Lib.hid (HAL.out.trans (HB1.out.mono HAL.out.size))
  have HX1 : Hid (w1.heap[w.heap.size]? = some zTok) := Lib.hid ((HB1.out.block _ (lt_of_heap' HX0.out)).trans HX0.out)
  obtain ⟨A, c, u, hh, hu, hr, hn, h1, h2⟩ := HP0.out.is
  have HST := Lib.hid (fun i hi => PS.step HP0.out HB.out hh hu hr hn h1 h2 (i := i) hi)
  obtain ⟨b, o, rfl, hbl, t0, t1, t2, t3⟩ := tok_nth hr hu
  have hbp : b ≠ p := Nat.ne_of_lt (hn b o rfl)
  have hk := (HB.out.block _ (lt_of_heap' hh)).trans hh
  have c1 : w1.cell? ⟨p, 1, none⟩ = some (.int .i64 u.length) := cell_of_blk (o := 1) hk rfl
  have f1 := frozen_of_blk (o := 1) hk
  have dl := lt_of_heap' hk
  have HK := Lib.hid hk
  have hlen : u.length < ts.length := by rw [hu]; simp
  have hfew := HP0.out.few
  have T0 := Lib.hid t0
  have T1 := Lib.hid t1
  have T2 := Lib.hid t2
  have T3 := Lib.hid t3
  have HN := Lib.hid hbp
  clear hh hu hr hn hk h1 h2 t0 t1 t2 t3 hbp
  go_wp2_with fail
  obtain ⟨hp2, he2⟩ := HST.out ((u.length : Int) + 1) (by simp)
  have hx2 : (w1.setCell ⟨p, 1, none⟩ (.int .i64 ((u.length : Int) + 1))).heap[w.heap.size]? = some zTok := (Below.heap_setCell _ _ _ _ (by simp; omega)).trans HX1.out
  have hk2 : (w1.setCell ⟨p, 1, none⟩ (.int .i64 ((u.length : Int) + 1))).heap[p]? = some (.cells #[.slice (some ⟨b, o, none⟩) ts.length c, .int .i64 ((u.length : Int) + 1), .int .i64 fin] 44 (0, 0)) := by
    rw [row_setCell (o := 1) HK.out]; simp
  generalize w1.setCell ⟨p, 1, none⟩ (.int .i64 ((u.length : Int) + 1)) = w2 at hp2 he2 hx2 hk2 ⊢
  have c0' := cell_of_blk (o := 0) hk2 rfl
  have c1' := cell_of_blk (o := 1) hk2 rfl
  have dl2 := lt_of_heap' hk2
  have s0 := he2.cell T0.out HN.out
  have s1 := he2.cell T1.out HN.out
  have s2 := he2.cell T2.out HN.out
  have s3 := he2.cell T3.out HN.out
  have hbl2 : b < w2.heap.size := Nat.lt_of_lt_of_le hbl he2.size
  have i1 : IntKind.i64.wrap (u.length : Int) = u.length := IntWalk.i64_in _ ⟨by omega, by omega⟩
  have i2 : (u.length : Int) < ts.length := by omega
  have HX2 := Lib.hid hx2
  have HP2 := Lib.hid hp2
  have HE2 := Lib.hid he2
  clear hp2 he2 hx2 hk2 c1 f1 dl hlen hfew
  go_still_tail 11, (by kernel_rfl)
  change wpList _ _ _ _ _ w2.drew
  have hx3 : w2.drew.heap[w.heap.size]? = some zTok := HX2.out
  have HP3 : Hid (PS w2.drew p fin ts l) := Lib.hid (HP2.out.below (Below.refl _ _).drew)
  have HE3 : Hid (Eff p w w2.drew) := Lib.hid (HE2.out.trans (Eff.of_below (Below.refl _ _).drew))
  generalize w2.drew = w3 at hx3 HP3 HE3 ⊢
  obtain ⟨d0, d1, d2, d3, f0, f1, f2, f3, dl⟩ := BoxT.mk' (w := w) hx3
  clear hx3 c0' c1' s0 s1 s2 s3 hbl2 dl2 i1 i2
  go_wp2_with fail
  have ho := ((((Off.refl w.heap.size w3).set (o := 0) (.int .i64 t.kind)).set (o := 1) (vs t.text)).set (o := 2) (.int .i64 t.n)).set (o := 3) (.int .i64 t.pos)
  refine bodyPost_ret (v := t.agg) (by simp [results, Tryz.results27, go_sem, *]) rfl ⟨rfl, ?_⟩
  exact ⟨HP3.out.off ho hpl, HE3.out.off ho (Nat.le_refl _)⟩

set_option maxRecDepth 20000 in
set_option maxHeartbeats 800000 in
theorem number_no (p fin : Nat) (ts l : List Tok) (w : World) (hp : PS w p fin ts l) (hs : (headT fin l).kind ≠ 2) :
    Calls Tryz.prog 56 #[.pointer (some ⟨p, 0, none⟩)] w fun e w' => e = stopE (failC l) (posAt fin l) ∧ Below w.heap.size w w' := by
  have HS := Lib.hid hs
  have HP := Lib.hid (hp.below ((Below.refl _ _).alloc (Nat.le_refl _) zTok))
  clear hp hs
  go_enter Tryz.func56, Tryz.ntmps56
  go_wp2_with fail
  refine (peek_any p fin ts l _ HP.out).mono ?_
  rintro e w1 ⟨rfl, hb1⟩
  have hk2 := HS.out
  generalize headT fin l = T at hk2 ⊢
  have i1 : ((T.kind : Int) == 2) = false := by simp; omega
  have i2 : ((T.kind : Int) != 2) = true := by simp; omega
  simp only [Tok.agg]
  clear hk2
  have HB1 := Lib.hid hb1
  clear hb1
  have HP2 := Lib.hid (HP.out.below HB1.out)
  go_wp2_with fail
  refine (fail_any p fin ts l _ HP2.out).mono ?_
  rintro e w2 ⟨rfl, hb2⟩
  have HB2 := Lib.hid (((Below.refl _ _).alloc (Nat.le_refl _) zTok).trans ((HB1.out.trans (hb2.mono HB1.out.size)).mono (by simp)))
  clear hb2
  go_wp2_with fail
  exact ⟨rfl, rfl, HB2.out⟩
set_option maxRecDepth 20000 in
set_option maxHeartbeats 1600000 in
theorem number_ok (p fin : Nat) (ts : List Tok) (t : Tok) (l : List Tok) (w : World) (hp : PS w p fin ts (t :: l)) (hs : t.kind = 2) :
    Calls Tryz.prog 56 #[.pointer (some ⟨p, 0, none⟩)] w fun e w' => e = .returned t.agg ∧ PS w' p fin ts l ∧ Eff p w w' := by
  have HS := Lib.hid hs
  have HP0 := Lib.hid hp
  have hpl := hp.lt
  have hal : Below w.heap.size w (w.alloc zTok) := (Below.refl _ _).alloc (Nat.le_refl _) _
  have HX0 := Lib.hid (heap_alloc_new w zTok)
  have HP := Lib.hid (hp.below hal)
  have HAL := Lib.hid hal
  clear hp hs hal
  go_enter Tryz.func56, Tryz.ntmps56
  go_wp2_with fail
  generalize w.alloc zTok = w0 at HX0 HP HAL ⊢
  refine (peek_cons p fin ts t l _ HP.out).mono ?_
  rintro e w1 ⟨rfl, hb1⟩
  have i8 : ((t.kind : Int) == 2) = true := by have := HS.out; simp; omega
  have i9 : ((t.kind : Int) != 2) = false := by have := HS.out; simp; omega
  simp only [Tok.agg]
  have HB1 := Lib.hid hb1
  clear hb1
  have HB : Hid (Below w.heap.size w w1) := Lib.hid (HAL.out.trans (HB1.out.mono HAL.out.size))
  have HX1 : Hid (w1.heap[w.heap.size]? = some zTok) := Lib.hid ((HB1.out.block _ (lt_of_heap' HX0.out)).trans HX0.out)
  obtain ⟨A, c, u, hh, hu, hr, hn, h1, h2⟩ := HP0.out.is
  have HST := Lib.hid (fun i hi => PS.step HP0.out HB.out hh hu hr hn h1 h2 (i := i) hi)
  obtain ⟨b, o, rfl, hbl, t0, t1, t2, t3⟩ := tok_nth hr hu
  have hbp : b ≠ p := Nat.ne_of_lt (hn b o rfl)
  have hk := (HB.out.block _ (lt_of_heap' hh)).trans hh
  have c1 : w1.cell? ⟨p, 1, none⟩ = some (.int .i64 u.length) := cell_of_blk (o := 1) hk rfl
  have f1 := frozen_of_blk (o := 1) hk
  have dl := lt_of_heap' hk
  have HK := Lib.hid hk
  have hlen : u.length < ts.length := by rw [hu]; simp
  have hfew := HP0.out.few
  have T0 := Lib.hid t0
  have T1 := Lib.hid t1
  have T2 := Lib.hid t2
  have T3 := Lib.hid t3
  have HN := Lib.hid hbp
  clear hh hu hr hn hk h1 h2 t0 t1 t2 t3 hbp
  go_wp2_with fail
  obtain ⟨hp2, he2⟩ := HST.out ((u.length : Int) + 1) (by simp)
  have hx2 : (w1.setCell ⟨p, 1, none⟩ (.int .i64 ((u.length : Int) + 1))).heap[w.heap.size]? = some zTok := (Below.heap_setCell _ _ _ _ (by simp; omega)).trans HX1.out
  have hk2 : (w1.setCell ⟨p, 1, none⟩ (.int .i64 ((u.length : Int) + 1))).heap[p]? = some (.cells #[.slice (some ⟨b, o, none⟩) ts.length c, .int .i64 ((u.length : Int) + 1), .int .i64 fin] 44 (0, 0)) := by
    rw [row_setCell (o := 1) HK.out]; simp
  generalize w1.setCell ⟨p, 1, none⟩ (.int .i64 ((u.length : Int) + 1)) = w2 at hp2 he2 hx2 hk2 ⊢
  have c0' := cell_of_blk (o := 0) hk2 rfl
  have c1' := cell_of_blk (o := 1) hk2 rfl
  have dl2 := lt_of_heap' hk2
  have s0 := he2.cell T0.out HN.out
  have s1 := he2.cell T1.out HN.out
  have s2 := he2.cell T2.out HN.out
  have s3 := he2.cell T3.out HN.out
  have hbl2 : b < w2.heap.size := Nat.lt_of_lt_of_le hbl he2.size
  have i1 : IntKind.i64.wrap (u.length : Int) = u.length := IntWalk.i64_in _ ⟨by omega, by omega⟩
  have i2 : (u.length : Int) < ts.length := by omega
  have HX2 := Lib.hid hx2
  have HP2 := Lib.hid hp2
  have HE2 := Lib.hid he2
  clear hp2 he2 hx2 hk2 c1 f1 dl hlen hfew
  go_still_tail 11, (by kernel_rfl)
  change wpList _ _ _ _ _ w2.drew
  have hx3 : w2.drew.heap[w.heap.size]? = some zTok := HX2.out
  have HP3 : Hid (PS w2.drew p fin ts l) := Lib.hid (HP2.out.below (Below.refl _ _).drew)
  have HE3 : Hid (Eff p w w2.drew) := Lib.hid (HE2.out.trans (Eff.of_below (Below.refl _ _).drew))
  generalize w2.drew = w3 at hx3 HP3 HE3 ⊢
  obtain ⟨d0, d1, d2, d3, f0, f1, f2, f3, dl⟩ := BoxT.mk' (w := w) hx3
  clear hx3 c0' c1' s0 s1 s2 s3 hbl2 dl2 i1 i2
  go_wp2_with fail
  have ho := ((((Off.refl w.heap.size w3).set (o := 0) (.int .i64 t.kind)).set (o := 1) (vs t.text)).set (o := 2) (.int .i64 t.n)).set (o := 3) (.int .i64 t.pos)
  refine bodyPost_ret (v := t.agg) (by simp [results, Tryz.results56, go_sem, *]) rfl ⟨rfl, ?_⟩
  exact ⟨HP3.out.off ho hpl, HE3.out.off ho (Nat.le_refl _)⟩

set_option maxRecDepth 20000 in
theorem check_no (e : Nat) (t : Tok) (w : World) : Calls Tryz.prog 57 #[.bool false, .int .i64 e, t.agg] w fun x w' => x = .returned (.tuple #[]) ∧ Below w.heap.size w w' := by
  simp only [Tok.agg]
  go_enter Tryz.func57, Tryz.ntmps57
  go_wp2_with fail
  go_end0
  exact ⟨rfl, (Below.refl _ _).alloc (Nat.le_refl _) _⟩
set_option maxRecDepth 20000 in
theorem check_yes (e : Nat) (t : Tok) (w : World) : Calls Tryz.prog 57 #[.bool true, .int .i64 e, t.agg] w fun x w' => x = stopE e t.pos ∧ Below w.heap.size w w' := by
  simp only [Tok.agg]
  go_enter Tryz.func57, Tryz.ntmps57
  go_wp2_with fail
  exact ⟨rfl, rfl, (Below.refl _ _).alloc (Nat.le_refl _) _⟩
theorem number_cases (l : List Tok) : (∃ t r, l = t :: r ∧ t.kind = 2 ∧ numberF l = .ok (t.n, r)) ∨ ((∀ fin, (headT fin l).kind ≠ 2) ∧ numberF l = .error (failC l, l)) := by
  cases l with
  | nil => exact .inr ⟨fun fin => by simp [headT], rfl⟩
  | cons t r =>
    by_cases h : t.kind = 2
    · exact .inl ⟨t, r, rfl, h, by simp [numberF, h]⟩
    · exact .inr ⟨fun fin => h, by simp [numberF, h, failR]⟩
theorem name_cases (l : List Tok) : (∃ t r, l = t :: r ∧ isNameF l = true ∧ nameF l = .ok (t.text, r)) ∨ (isNameF l = false ∧ nameF l = .error (failC l, l)) := by
  cases l with
  | nil => exact .inr ⟨rfl, rfl⟩
  | cons t r =>
    cases h : (t.kind == 1 && !keyF t.text) with
    | true => exact .inl ⟨t, r, rfl, h, by unfold nameF; simp only []; rw [h]; rfl⟩
    | false => exact .inr ⟨h, by unfold nameF; simp only []; rw [h]; rfl⟩
set_option maxRecDepth 20000 in
set_option maxHeartbeats 800000 in
theorem limited_any (most : Nat) (p fin : Nat) (ts l : List Tok) (w : World) (hp : PS w p fin ts l) :
    Calls Tryz.prog 29 #[.pointer (some ⟨p, 0, none⟩), .int .i64 most] w (OutR p fin ts w (limitF most l) (fun n v _ => v = .int .i64 n)) := by
  have HP := Lib.hid hp
  clear hp
  rcases number_cases l with ⟨t, r, rfl, hk, hn⟩ | ⟨hk, hn⟩
  · have HK := Lib.hid hk
    by_cases hm : most < t.n
    · rw [show limitF most (t :: r) = .error (10, t :: r) by unfold limitF; rw [hn]; simp [bindR, hm]]
      have i1 : (most : Int) < t.n := by omega
      clear hk hn
      go_enter Tryz.func29, Tryz.ntmps29
      go_wp2_with fail
      refine (number_ok p fin ts t r _ HP.out HK.out).mono ?_
      rintro e w1 ⟨rfl, hp1, he1⟩
      have HE1 := Lib.hid he1
      clear hp1 he1
      simp only [Tok.agg]
      go_wp2_with fail
      refine (check_yes 10 t _).mono ?_
      rintro e w2 ⟨rfl, hb2⟩
      have HE2 := Lib.hid ((HE1.out.alloc _).trans (Eff.of_below hb2))
      clear hb2
      go_wp2_with fail
      exact ⟨rfl, rfl, HE2.out⟩
    · rw [show limitF most (t :: r) = .ok (t.n, r) by unfold limitF; rw [hn]; simp [bindR, hm]]
      have i1 : ¬ (most : Int) < t.n := by omega
      clear hk hn
      go_enter Tryz.func29, Tryz.ntmps29
      go_wp2_with fail
      refine (number_ok p fin ts t r _ HP.out HK.out).mono ?_
      rintro e w1 ⟨rfl, hp1, he1⟩
      have HE1 := Lib.hid (he1.alloc (.cells #[.int .i64 t.kind, vs t.text, .int .i64 t.n, .int .i64 t.pos] 55 (0, 0)))
      have HP1 := Lib.hid (hp1.below ((Below.refl _ _).alloc (Nat.le_refl _) (.cells #[.int .i64 t.kind, vs t.text, .int .i64 t.n, .int .i64 t.pos] 55 (0, 0))))
      have HX1 := Lib.hid (heap_alloc_new w1 (.cells #[.int .i64 t.kind, vs t.text, .int .i64 t.n, .int .i64 t.pos] 55 (0, 0)))
      clear hp1 he1
      simp only [Tok.agg]
      go_wp2_with fail
      refine (check_no 10 t _).mono ?_
      rintro e w2 ⟨rfl, hb2⟩
      have HE2 := Lib.hid (HE1.out.trans (Eff.of_below hb2))
      have HP2 := Lib.hid (HP1.out.below hb2)
      have hx := (hb2.block _ (lt_of_heap' HX1.out)).trans HX1.out
      have d2 := cell_of_blk (o := 2) hx rfl
      have dl := lt_of_heap' hx
      clear hb2 hx
      go_wp2_with fail
      go_ret
      exact ⟨_, rfl, rfl, HP2.out, HE2.out⟩
  · rw [show limitF most l = .error (failC l, l) by unfold limitF; rw [hn]; rfl]
    have HK := Lib.hid (hk fin)
    clear hk hn
    go_enter Tryz.func29, Tryz.ntmps29
    go_wp2_with fail
    refine (number_no p fin ts l _ HP.out HK.out).mono ?_
    rintro e w1 ⟨rfl, hb1⟩
    have HB1 := Lib.hid hb1
    clear hb1
    go_wp2_with fail
    exact ⟨rfl, rfl, Eff.of_below HB1.out⟩
end Go.Proofs.YtcekampdldkjlaaGreatDoor
