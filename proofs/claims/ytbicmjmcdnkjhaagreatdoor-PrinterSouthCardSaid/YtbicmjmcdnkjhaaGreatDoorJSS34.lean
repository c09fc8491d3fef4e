/- Words, names and numbers. Conditions in memory; rows of them that a call owns. -/
import Derived.Test.YtbicmjmcdnkjhaaGreatDoorJSS1
import Derived.Test.YtbicmjmcdnkjhaaGreatDoorJSS33
import Derived.Test.YtbicmjmcdnkjhaaGreatDoorJSS15
import Derived.Test.YtbicmjmcdnkjhaaGreatDoorShelf
import Derived.BigQuiet
import Derived.IntWalk
import Derived.Deep.CutRange
import Derived.Deep.QuietTactic
import Derived.Laws.AppendOwn
import Derived.Maps.AppendAt
import Derived.OwnWalk
set_option linter.unusedVariables false
set_option linter.unusedSimpArgs false
set_option maxRecDepth 20000
set_option maxHeartbeats 1600000
namespace Go.Proofs.YtbicmjmcdnkjhaaGreatDoor
namespace So
open Go.RowKit
theorem ixS_neg {l : List (List UInt8)} {s : List UInt8} (h : l.contains s = false) : ixS l s = none := by
 unfold ixS
 rw [List.findIdx?_eq_none_iff]
 intro x hx
 cases hb : (s == x) with
 | false => rfl
 | true =>
   have : s = x := by simpa using hb
   subst this
   simp at h
   exact absurd hx h
theorem ixS_pos {l : List (List UInt8)} {s : List UInt8} (h : l.contains s = true) : ∃ i, ixS l s = some i := by
 cases hi : ixS l s with
 | some i => exact ⟨i, rfl⟩
 | none =>
   unfold ixS at hi
   rw [List.findIdx?_eq_none_iff] at hi
   simp at h
   have := hi s h
   simp at this
theorem containsS_any (l : List (List UInt8)) (A : Option Addr) (c : Nat) (s : List UInt8) (w : World) (hr : RdS w A l) (hl : l.length ≤ 1000) :
 Calls Tryz.prog 125 #[.slice A l.length c, vs s] w fun e w' => e = .returned (.bool (l.contains s)) ∧ w = w' := by
 have HR := Hi hr
 clear hr
 cases hc : l.contains s with
 | true =>
   obtain ⟨i, hi⟩ := ixS_pos hc
   have HI := Hi hi
   have h0 : (0 : Int) ≤ i := by omega
   clear hi hc
   go_enter Tryz.func125, Tryz.ntmps125
   go_wp2_with fail
   refine (indexS_any l A c s _ HR.out (by unfold maxLen; omega)).mono ?_
   rintro e w1 ⟨rfl, rfl⟩
   rw [HI.out]
   go_wp2_with fail
   go_ret
   exact ⟨rfl, rfl⟩
 | false =>
   have HI := Hi (ixS_neg hc)
   clear hc
   go_enter Tryz.func125, Tryz.ntmps125
   go_wp2_with fail
   refine (indexS_any l A c s _ HR.out (by unfold maxLen; omega)).mono ?_
   rintro e w1 ⟨rfl, rfl⟩
   rw [HI.out]
   go_wp2_with fail
   go_ret
   exact ⟨rfl, rfl⟩
theorem keys_bytes (s : List UInt8) : ((⟨#[32]⟩ : ByteArray) ++ ⟨s.toArray⟩ ++ ⟨#[32]⟩).data.toList = 32 :: (s ++ [32]) := by
 simp [ByteArray.data_append]
theorem contains_key (B : ByteArray) (s : List UInt8) (w : World) (hB : B.data.toList = keysT keyWords) (hs : ∀ c ∈ s, c ≠ 32) (hm : ∃ m, w.cell? ⟨2, 0, none⟩ = some (.int .i64 m)) :
 Calls Tryz.prog 162 #[.string B, .string ((⟨#[32]⟩ : ByteArray) ++ ⟨s.toArray⟩ ++ ⟨#[32]⟩)] w fun e w' => e = .returned (.bool (keyF s)) ∧ w = w' := by
 obtain ⟨m, hm⟩ := hm
 have hsz : B.size < 4294967281 := by
  have h1 : B.data.toList.length ≤ 1000 := by rw [hB]; decide
  have h2 : B.size = B.data.toList.length := (Array.length_toList).symm
  omega
 refine (Tryz.strings_Contains B _ m w hsz hm).mono ?_
 rintro e w' ⟨rfl, rfl⟩
 rw [hB, keys_bytes, key_contains s hs]
 exact ⟨rfl, rfl⟩
structure Off (b : Nat) (w w' : World) : Prop where
 os : w'.os = w.os
 tape : w'.tape = w.tape
 output : w'.output = w.output
 size : w'.heap.size = w.heap.size
 block : ∀ k, k ≠ b → w'.heap[k]? = w.heap[k]?
theorem Off.refl (b : Nat) (w : World) : Off b w w := ⟨rfl, rfl, rfl, rfl, fun _ _ => rfl⟩
theorem Off.set {b o : Nat} {w w' : World} (h : Off b w w') (v : Value) : Off b w (w'.setCell ⟨b, o, none⟩ v) :=
 ⟨h.os, h.tape, h.output, by have := h.size; simpa using this, fun k hk => (Below.heap_setCell _ _ _ _ (by simpa using hk)).trans (h.block k hk)⟩
theorem _root_.Go.Proofs.YtbicmjmcdnkjhaaGreatDoor.Eff.off {p b : Nat} {w w1 w2 : World} (h : Eff p w w1) (ho : Off b w1 w2) (hb : w.heap.size ≤ b) : Eff p w w2 :=
 ⟨ho.os.trans h.os, ho.tape.trans h.tape, ho.output.trans h.output, by rw [ho.size]; exact h.size, fun k hk hn => (ho.block k (by omega)).trans (h.block k hk hn)⟩
theorem PS.off {p b fin : Nat} {ts l : List Tok} {w w' : World} (h : PS w p fin ts l) (ho : Off b w w') (hb : p < b) : PS w' p fin ts l :=
 h.keep (Nat.le_of_eq ho.size.symm) (fun k hk => ho.block k (by omega))
theorem _root_.Go.Proofs.YtbicmjmcdnkjhaaGreatDoor.RdS.new {w : World} {b : Nat} {ss : List (List UInt8)} {t : TypeId} (h : w.heap[b]? = some (.cells (ss.map vs).toArray t (0, 0))) : RdS w (some ⟨b, 0, none⟩) ss := by
 intro hne
 refine ⟨b, 0, rfl, lHp h, fun k x hx j v hv => ?_⟩
 cases j with
 | succ j => simp at hv
 | zero =>
   simp at hv
   subst hv
   refine cOb h ?_
   simp [hx]
theorem sees_headT (ws : List (List UInt8)) (fin : Nat) (l : List Tok) : seesF ws l = (((headT fin l).kind == 1 || (headT fin l).kind == 3) && ws.contains (headT fin l).text) := by
 cases l with
 | nil => rfl
 | cons t r => rfl
theorem sees_any (ws : List (List UInt8)) (W : Option Addr) (cw : Nat) (p fin : Nat) (ts l : List Tok) (w : World) (hp : PS w p fin ts l) (hr : RdS w W ws) (hl : ws.length ≤ 1000) :
 Calls Tryz.prog 129 #[.pointer (some ⟨p, 0, none⟩), .slice W ws.length cw] w fun e w' => e = .returned (.bool (seesF ws l)) ∧ Below w.heap.size w w' := by
 have HP := Hi hp
 have HR := Hi hr
 have HS := Hi (sees_headT ws fin l)
 clear hp hr
 go_enter Tryz.func129, Tryz.ntmps129
 go_wp2_with fail
 refine (peek_any p fin ts l _ HP.out).mono ?_
 rintro e w1 ⟨rfl, hb1⟩
 generalize headT fin l = T at HS ⊢
 have HB2 := Hi (hb1.alloc hb1.size (.cells #[.int .i64 T.kind, vs T.text, .int .i64 T.n, .int .i64 T.pos] 122 (0, 0)))
 have HR2 := Hi (HR.out.below HB2.out)
 have hx := heap_alloc_new w1 (.cells #[.int .i64 T.kind, vs T.text, .int .i64 T.n, .int .i64 T.pos] 122 (0, 0))
 clear hb1
 simp only [Tok.agg]
 go_upto_region 2 with fail
 generalize w1.alloc (.cells #[.int .i64 T.kind, vs T.text, .int .i64 T.n, .int .i64 T.pos] 122 (0, 0)) = w2 at HB2 HR2 hx ⊢
 have d0 := cOb (o := 0) hx rfl
 have d1 := cOb (o := 1) hx rfl
 have dl := lHp hx
 clear hx
 by_cases h1 : T.kind = 1
 · rw [h1] at d0
   have HE : Hid (seesF ws l = ws.contains T.text) := Hi (by rw [HS.out, h1]; rfl)
   clear h1
   go_wp2_with fail
   refine (containsS_any ws W cw T.text w2 HR2.out hl).mono ?_
   rintro e w3 ⟨rfl, rfl⟩
   generalize ws.contains T.text = B at HE ⊢
   go_wp2_with fail
   go_ret
   exact ⟨by rw [HE.out]; rfl, HB2.out⟩
 · by_cases h3 : T.kind = 3
   · rw [h3] at d0
     have HE : Hid (seesF ws l = ws.contains T.text) := Hi (by rw [HS.out, h3]; rfl)
     clear h3 h1
     go_wp2_with fail
     refine (containsS_any ws W cw T.text w2 HR2.out hl).mono ?_
     rintro e w3 ⟨rfl, rfl⟩
     generalize ws.contains T.text = B at HE ⊢
     go_wp2_with fail
     go_ret
     exact ⟨by rw [HE.out]; rfl, HB2.out⟩
   · have HE : Hid (seesF ws l = false) := Hi (by rw [HS.out]; simp [h1, h3])
     have i1 : ((T.kind : Int) == 1) = false := by simp; omega
     have i3 : ((T.kind : Int) == 3) = false := by simp; omega
     clear h1 h3
     go_wp2_with fail
     go_ret
     exact ⟨by rw [HE.out]; rfl, HB2.out⟩
/- what a consumed token makes of the parser's block -/
theorem PS.step {w w1 : World} {p fin : Nat} {ts : List Tok} {t : Tok} {l : List Tok} (h : PS w p fin ts (t :: l)) (hb : Below w.heap.size w w1) {A : Option Addr} {c : Nat} {u : List Tok}
 (hh : w.heap[p]? = some (.cells #[.slice A ts.length c, .int .i64 (u.length : Nat), .int .i64 fin] 92 (0, 0))) (hu : ts = u ++ t :: l) (hr : RdT w A ts) (hn : ∀ b o, A = some ⟨b, o, none⟩ → b < p) (h1 : ts.length ≤ c) (h2 : c ≤ 9223372036854775807) {i : Int} (hi : i = ((u.length + 1 : Nat) : Int)) :
 PS (w1.setCell ⟨p, 1, none⟩ (.int .i64 i)) p fin ts l ∧ Eff p w (w1.setCell ⟨p, 1, none⟩ (.int .i64 i)) := by
 subst hi
 have he : Eff p w (w1.setCell ⟨p, 1, none⟩ (.int .i64 ((u.length + 1 : Nat) : Int))) := (Eff.of_below hb).setCell ⟨p, 1, none⟩ (.inl rfl) _
 obtain ⟨m, hm⟩ := h.mx
 refine ⟨⟨⟨A, c, u ++ [t], ?_, by rw [hu]; simp, Sl.keep hr he.size (fun b o hA hlt => he.block _ hlt (Nat.ne_of_lt (hn b o hA))), hn, h1, h2⟩, h.fit, h.few, ⟨m, he.cell hm (Nat.ne_of_lt h.ne)⟩, h.ne, h.bound⟩, he⟩
 rw [rSc (o := 1) (u := .int .i64 ((u.length + 1 : Nat) : Int)) ((hb.block p (lHp hh)).trans hh)]
 simp
theorem is_no (s : List UInt8) (p fin : Nat) (ts l : List Tok) (w : World) (hp : PS w p fin ts l) (hs : seesF [s] l = false) :
 Calls Tryz.prog 88 #[.pointer (some ⟨p, 0, none⟩), vs s] w fun e w' => e = .returned (.bool false) ∧ Below w.heap.size w w' := by
 have HP := Hi (hp.below ((Below.refl _ _).alloc (lR _) (.cells #[vs s] 9 (0, 0))))
 have HR : Hid (RdS (w.alloc (.cells #[vs s] 9 (0, 0))) (some ⟨w.heap.size, 0, none⟩) [s]) := Hi (RdS.new (heap_alloc_new w _))
 have HS := Hi hs
 clear hp hs
 go_enter Tryz.func88, Tryz.ntmps88
 go_wp2_with fail
 refine (sees_any [s] _ 1 p fin ts l _ HP.out HR.out (by simp)).mono ?_
 rintro e w1 ⟨rfl, hb1⟩
 rw [HS.out]
 have HB := Hi (((Below.refl _ _).alloc (lR _) (.cells #[vs s] 9 (0, 0))).trans (hb1.mono (by simp)))
 clear hb1
 go_wp2_with fail
 go_ret
 exact ⟨rfl, HB.out⟩
theorem is_yes (s : List UInt8) (p fin : Nat) (ts l : List Tok) (w : World) (hp : PS w p fin ts l) (hs : seesF [s] l = true) :
 Calls Tryz.prog 88 #[.pointer (some ⟨p, 0, none⟩), vs s] w fun e w' => e = .returned (.bool true) ∧ PS w' p fin ts l.tail ∧ Eff p w w' := by
 have HP0 := Hi hp
 have HP := Hi (hp.below ((Below.refl _ _).alloc (lR _) (.cells #[vs s] 9 (0, 0))))
 have HR : Hid (RdS (w.alloc (.cells #[vs s] 9 (0, 0))) (some ⟨w.heap.size, 0, none⟩) [s]) := Hi (RdS.new (heap_alloc_new w _))
 have HS := Hi hs
 clear hp hs
 go_enter Tryz.func88, Tryz.ntmps88
 go_wp2_with fail
 refine (sees_any [s] _ 1 p fin ts l _ HP.out HR.out (by simp)).mono ?_
 rintro e w1 ⟨rfl, hb1⟩
 rw [HS.out]
 have HB : Hid (Below w.heap.size w w1) := Hi (((Below.refl _ _).alloc (lR _) (.cells #[vs s] 9 (0, 0))).trans (hb1.mono (by simp)))
 clear hb1
 cases l with
 | nil => exact absurd HS.out (by simp [seesF])
 | cons t r =>
   obtain ⟨A, c, u, hh, hu, hr, hn, h1, h2⟩ := HP0.out.is
   have HST := Hi (fun i hi => PS.step HP0.out HB.out hh hu hr hn h1 h2 (i := i) hi)
   have hk := (HB.out.block _ (lHp hh)).trans hh
   have c1 : w1.cell? ⟨p, 1, none⟩ = some (.int .i64 u.length) := cOb (o := 1) hk rfl
   have f1 := fOb (o := 1) hk
   have dl := lHp hk
   have hlen : u.length < 5000 := by have := HP0.out.few; rw [hu] at this; simp at this; omega
   clear hh hu hr hn hk h1 h2
   go_wp2_with fail
   go_ret
   exact ⟨rfl, HST.out _ (by simp)⟩
/- what a function of the parser answers -/
def OutR {α : Type} (p fin : Nat) (ts : List Tok) (w : World) (res : R α) (V : α → Value → World → Prop) (e : Ending) (w' : World) : Prop :=
 match res with
 | .ok (x, r) => ∃ v, e = .returned v ∧ V x v w' ∧ PS w' p fin ts r ∧ Eff p w w'
 | .error (er, s) => e = stopE er (posAt fin s) ∧ Eff p w w'
abbrev UnitV : Unit → Value → World → Prop := fun _ v _ => v = .tuple #[]
theorem must_any (s : List UInt8) (p fin : Nat) (ts l : List Tok) (w : World) (hp : PS w p fin ts l) :
 Calls Tryz.prog 91 #[.pointer (some ⟨p, 0, none⟩), vs s] w (OutR p fin ts w (mustF s l) UnitV) := by
 have HP := Hi hp
 clear hp
 cases hs : seesF [s] l with
 | true =>
   have HS := Hi hs
   rw [show mustF s l = .ok ((), l.tail) by unfold mustF isF; rw [hs]; rfl]
   clear hs
   go_enter Tryz.func91, Tryz.ntmps91
   go_wp2_with fail
   refine (is_yes s p fin ts l _ HP.out HS.out).mono ?_
   rintro e w1 ⟨rfl, hp1, he1⟩
   go_wp2_with fail
   go_end0
   exact ⟨_, rfl, rfl, hp1, he1⟩
 | false =>
   have HS := Hi hs
   rw [show mustF s l = .error (failC l, l) by unfold mustF isF; rw [hs]; rfl]
   clear hs
   go_enter Tryz.func91, Tryz.ntmps91
   go_wp2_with fail
   refine (is_no s p fin ts l _ HP.out HS.out).mono ?_
   rintro e w1 ⟨rfl, hb1⟩
   have HB1 := Hi hb1
   have HP1 := Hi (HP.out.below hb1)
   clear hb1
   go_wp2_with fail
   refine (fail_any p fin ts l _ HP1.out).mono ?_
   rintro e w2 ⟨rfl, hb2⟩
   have HB2 := Hi (HB1.out.trans (hb2.mono HB1.out.size))
   clear hb2
   go_wp2_with fail
   exact ⟨rfl, rfl, Eff.of_below HB2.out⟩
theorem isName_head (fin : Nat) (l : List Tok) : isNameF l = ((headT fin l).kind == 1 && !keyF (headT fin l).text) := by
 cases l with
 | nil => rfl
 | cons t r => rfl
theorem headT_fit {w : World} {p fin : Nat} {ts l : List Tok} (h : PS w p fin ts l) : (headT fin l).text.length ≤ 30 ∧ ((headT fin l).kind = 1 → ∀ c ∈ (headT fin l).text, c ≠ 32) := by
 cases l with
 | nil => exact ⟨by simp [headT], fun hk => absurd hk (by simp [headT])⟩
 | cons t r =>
   obtain ⟨A, c, u, -, hu, -⟩ := h.is
   have := h.fit t (by rw [hu]; simp)
   exact ⟨this.len, this.nospace⟩
theorem isName_any (p fin : Nat) (ts l : List Tok) (w : World) (hp : PS w p fin ts l) :
 Calls Tryz.prog 132 #[.pointer (some ⟨p, 0, none⟩)] w fun e w' => e = .returned (.bool (isNameF l)) ∧ Below w.heap.size w w' := by
 have HP := Hi hp
 have HS := Hi (isName_head fin l)
 have HF := Hi (headT_fit hp)
 clear hp
 go_enter Tryz.func132, Tryz.ntmps132
 go_wp2_with fail
 refine (peek_any p fin ts l _ HP.out).mono ?_
 rintro e w1 ⟨rfl, hb1⟩
 generalize headT fin l = T at HS HF ⊢
 have HB2 := Hi (hb1.alloc hb1.size (.cells #[.int .i64 T.kind, vs T.text, .int .i64 T.n, .int .i64 T.pos] 122 (0, 0)))
 have HM := Hi ((HP.out.below HB2.out).mx)
 have hx := heap_alloc_new w1 (.cells #[.int .i64 T.kind, vs T.text, .int .i64 T.n, .int .i64 T.pos] 122 (0, 0))
 clear hb1
 simp only [Tok.agg]
 go_upto_region 2 with fail
 generalize w1.alloc (.cells #[.int .i64 T.kind, vs T.text, .int .i64 T.n, .int .i64 T.pos] 122 (0, 0)) = w2 at HB2 HM hx ⊢
 have d0 := cOb (o := 0) hx rfl
 have d1 := cOb (o := 1) hx rfl
 have dl := lHp hx
 obtain ⟨hlen, hsp⟩ := HF.out
 have HSP := Hi hsp
 clear hx hsp
 have q1 : ¬ 9223372036854775807 < 1 + T.text.length := by omega
 have q2 : ¬ 9223372036854775807 < 1 + T.text.length + 1 := by omega
 by_cases h1 : T.kind = 1
 · rw [h1] at d0
   have HE : Hid (isNameF l = !keyF T.text) := Hi (by rw [HS.out, h1]; rfl)
   have HSP2 := Hi (HSP.out h1)
   clear h1
   go_wp2_with fail
   refine (contains_key _ T.text w2 (by kernel_rfl) HSP2.out HM.out).mono ?_
   rintro e w3 ⟨rfl, rfl⟩
   generalize keyF T.text = B at HE ⊢
   go_wp2_with fail
   go_ret
   exact ⟨by rw [HE.out]; rfl, HB2.out⟩
 · have HE : Hid (isNameF l = false) := Hi (by rw [HS.out]; simp [h1])
   have i1 : ((T.kind : Int) == 1) = false := by simp; omega
   clear h1
   go_wp2_with fail
   go_ret
   exact ⟨by rw [HE.out]; rfl, HB2.out⟩
theorem name_no (p fin : Nat) (ts l : List Tok) (w : World) (hp : PS w p fin ts l) (hs : isNameF l = false) :
 Calls Tryz.prog 90 #[.pointer (some ⟨p, 0, none⟩)] w fun e w' => e = stopE (failC l) (posAt fin l) ∧ Below w.heap.size w w' := by
 have HS := Hi hs
 have HP := Hi (hp.below ((Below.refl _ _).alloc (lR _) zTok))
 clear hp hs
 go_enter Tryz.func90, Tryz.ntmps90
 go_wp2_with fail
 refine (isName_any p fin ts l _ HP.out).mono ?_
 rintro e w1 ⟨rfl, hb1⟩
 rw [HS.out]
 have HB1 := Hi hb1
 clear hb1
 have HP2 := Hi (HP.out.below HB1.out)
 go_wp2_with fail
 refine (fail_any p fin ts l _ HP2.out).mono ?_
 rintro e w2 ⟨rfl, hb2⟩
 have HB2 := Hi (((Below.refl _ _).alloc (lR _) zTok).trans ((HB1.out.trans (hb2.mono HB1.out.size)).mono (by simp)))
 clear hb2
 go_wp2_with fail
 exact ⟨rfl, rfl, HB2.out⟩
theorem name_ok (p fin : Nat) (ts : List Tok) (t : Tok) (l : List Tok) (w : World) (hp : PS w p fin ts (t :: l)) (hs : isNameF (t :: l) = true) :
 Calls Tryz.prog 90 #[.pointer (some ⟨p, 0, none⟩)] w fun e w' => e = .returned t.agg ∧ PS w' p fin ts l ∧ Eff p w w' := by
 have HS := Hi hs
 have HP0 := Hi hp
 have hpl := hp.lt
 have hal : Below w.heap.size w (w.alloc zTok) := (Below.refl _ _).alloc (lR _) _
 have HX0 := Hi (heap_alloc_new w zTok)
 have HP := Hi (hp.below hal)
 have HAL := Hi hal
 clear hp hs hal
 go_enter Tryz.func90, Tryz.ntmps90
 go_wp2_with fail
 generalize w.alloc zTok = w0 at HX0 HP HAL ⊢
 refine (isName_any p fin ts (t :: l) _ HP.out).mono ?_
 rintro e w1 ⟨rfl, hb1⟩
 rw [HS.out]
 have HB1 := Hi hb1
 clear hb1
 have HB : Hid (Below w.heap.size w w1) := Hi (HAL.out.trans (HB1.out.mono HAL.out.size))
 have HX1 : Hid (w1.heap[w.heap.size]? = some zTok) := Hi ((HB1.out.block _ (lHp HX0.out)).trans HX0.out)
 obtain ⟨A, c, u, hh, hu, hr, hn, h1, h2⟩ := HP0.out.is
 have HST := Hi (fun i hi => PS.step HP0.out HB.out hh hu hr hn h1 h2 (i := i) hi)
 obtain ⟨b, o, rfl, hbl, t0, t1, t2, t3⟩ := tok_nth hr hu
 have hbp : b ≠ p := Nat.ne_of_lt (hn b o rfl)
 have hk := (HB.out.block _ (lHp hh)).trans hh
 have c1 : w1.cell? ⟨p, 1, none⟩ = some (.int .i64 u.length) := cOb (o := 1) hk rfl
 have f1 := fOb (o := 1) hk
 have dl := lHp hk
 have HK := Hi hk
 have hlen : u.length < ts.length := by rw [hu]; simp
 have hfew := HP0.out.few
 have T0 := Hi t0
 have T1 := Hi t1
 have T2 := Hi t2
 have T3 := Hi t3
 have HN := Hi hbp
 clear hh hu hr hn hk h1 h2 t0 t1 t2 t3 hbp
 go_wp2_with fail
 obtain ⟨hp2, he2⟩ := HST.out ((u.length : Int) + 1) (by simp)
 have hx2 : (w1.setCell ⟨p, 1, none⟩ (.int .i64 ((u.length : Int) + 1))).heap[w.heap.size]? = some zTok := (Below.heap_setCell _ _ _ _ (by simp; omega)).trans HX1.out
 have hk2 : (w1.setCell ⟨p, 1, none⟩ (.int .i64 ((u.length : Int) + 1))).heap[p]? = some (.cells #[.slice (some ⟨b, o, none⟩) ts.length c, .int .i64 ((u.length : Int) + 1), .int .i64 fin] 92 (0, 0)) := by
  rw [rSc (o := 1) HK.out]; simp
 generalize w1.setCell ⟨p, 1, none⟩ (.int .i64 ((u.length : Int) + 1)) = w2 at hp2 he2 hx2 hk2 ⊢
 have c0' := cOb (o := 0) hk2 rfl
 have c1' := cOb (o := 1) hk2 rfl
 have dl2 := lHp hk2
 have s0 := he2.cell T0.out HN.out
 have s1 := he2.cell T1.out HN.out
 have s2 := he2.cell T2.out HN.out
 have s3 := he2.cell T3.out HN.out
 have hbl2 : b < w2.heap.size := Nat.lt_of_lt_of_le hbl he2.size
 have i1 : IntKind.i64.wrap (u.length : Int) = u.length := IntWalk.i64_in _ ⟨by omega, by omega⟩
 have i2 : (u.length : Int) < ts.length := by omega
 have HX2 := Hi hx2
 have HP2 := Hi hp2
 have HE2 := Hi he2
 clear hp2 he2 hx2 hk2 c1 f1 dl hlen hfew
 go_still_tail 11, (by kernel_rfl)
 change wpList _ _ _ _ _ w2.drew
 have hx3 : w2.drew.heap[w.heap.size]? = some zTok := HX2.out
 have HP3 : Hid (PS w2.drew p fin ts l) := Hi (HP2.out.below (Below.refl _ _).drew)
 have HE3 : Hid (Eff p w w2.drew) := Hi (HE2.out.trans (Eff.of_below (Below.refl _ _).drew))
 generalize w2.drew = w3 at hx3 HP3 HE3 ⊢
 obtain ⟨d0, d1, d2, d3, f0, f1, f2, f3, dl⟩ := BoxT.mk' (w := w) hx3
 clear hx3 c0' c1' s0 s1 s2 s3 hbl2 dl2 i1 i2
 go_wp2_with fail
 have ho := ((((Off.refl w.heap.size w3).set (o := 0) (.int .i64 t.kind)).set (o := 1) (vs t.text)).set (o := 2) (.int .i64 t.n)).set (o := 3) (.int .i64 t.pos)
 refine bodyPost_ret (v := t.agg) (by simp [results, Tryz.results90, go_sem, *]) rfl ⟨rfl, ?_⟩
 exact ⟨HP3.out.off ho hpl, HE3.out.off ho (lR _)⟩
theorem number_no (p fin : Nat) (ts l : List Tok) (w : World) (hp : PS w p fin ts l) (hs : (headT fin l).kind ≠ 2) :
 Calls Tryz.prog 138 #[.pointer (some ⟨p, 0, none⟩)] w fun e w' => e = stopE (failC l) (posAt fin l) ∧ Below w.heap.size w w' := by
 have HS := Hi hs
 have HP := Hi (hp.below ((Below.refl _ _).alloc (lR _) zTok))
 clear hp hs
 go_enter Tryz.func138, Tryz.ntmps138
 go_wp2_with fail
 refine (peek_any p fin ts l _ HP.out).mono ?_
 rintro e w1 ⟨rfl, hb1⟩
 have hk2 := HS.out
 generalize headT fin l = T at hk2 ⊢
 have i1 : ((T.kind : Int) == 2) = false := by simp; omega
 have i2 : ((T.kind : Int) != 2) = true := by simp; omega
 simp only [Tok.agg]
 clear hk2
 have HB1 := Hi hb1
 clear hb1
 have HP2 := Hi (HP.out.below HB1.out)
 go_wp2_with fail
 refine (fail_any p fin ts l _ HP2.out).mono ?_
 rintro e w2 ⟨rfl, hb2⟩
 have HB2 := Hi (((Below.refl _ _).alloc (lR _) zTok).trans ((HB1.out.trans (hb2.mono HB1.out.size)).mono (by simp)))
 clear hb2
 go_wp2_with fail
 exact ⟨rfl, rfl, HB2.out⟩
theorem number_ok (p fin : Nat) (ts : List Tok) (t : Tok) (l : List Tok) (w : World) (hp : PS w p fin ts (t :: l)) (hs : t.kind = 2) :
 Calls Tryz.prog 138 #[.pointer (some ⟨p, 0, none⟩)] w fun e w' => e = .returned t.agg ∧ PS w' p fin ts l ∧ Eff p w w' := by
 have HS := Hi hs
 have HP0 := Hi hp
 have hpl := hp.lt
 have hal : Below w.heap.size w (w.alloc zTok) := (Below.refl _ _).alloc (lR _) _
 have HX0 := Hi (heap_alloc_new w zTok)
 have HP := Hi (hp.below hal)
 have HAL := Hi hal
 clear hp hs hal
 go_enter Tryz.func138, Tryz.ntmps138
 go_wp2_with fail
 generalize w.alloc zTok = w0 at HX0 HP HAL ⊢
 refine (peek_cons p fin ts t l _ HP.out).mono ?_
 rintro e w1 ⟨rfl, hb1⟩
 have i8 : ((t.kind : Int) == 2) = true := by have := HS.out; simp; omega
 have i9 : ((t.kind : Int) != 2) = false := by have := HS.out; simp; omega
 simp only [Tok.agg]
 have HB1 := Hi hb1
 clear hb1
 have HB : Hid (Below w.heap.size w w1) := Hi (HAL.out.trans (HB1.out.mono HAL.out.size))
 have HX1 : Hid (w1.heap[w.heap.size]? = some zTok) := Hi ((HB1.out.block _ (lHp HX0.out)).trans HX0.out)
 obtain ⟨A, c, u, hh, hu, hr, hn, h1, h2⟩ := HP0.out.is
 have HST := Hi (fun i hi => PS.step HP0.out HB.out hh hu hr hn h1 h2 (i := i) hi)
 obtain ⟨b, o, rfl, hbl, t0, t1, t2, t3⟩ := tok_nth hr hu
 have hbp : b ≠ p := Nat.ne_of_lt (hn b o rfl)
 have hk := (HB.out.block _ (lHp hh)).trans hh
 have c1 : w1.cell? ⟨p, 1, none⟩ = some (.int .i64 u.length) := cOb (o := 1) hk rfl
 have f1 := fOb (o := 1) hk
 have dl := lHp hk
 have HK := Hi hk
 have hlen : u.length < ts.length := by rw [hu]; simp
 have hfew := HP0.out.few
 have T0 := Hi t0
 have T1 := Hi t1
 have T2 := Hi t2
 have T3 := Hi t3
 have HN := Hi hbp
 clear hh hu hr hn hk h1 h2 t0 t1 t2 t3 hbp
 go_wp2_with fail
 obtain ⟨hp2, he2⟩ := HST.out ((u.length : Int) + 1) (by simp)
 have hx2 : (w1.setCell ⟨p, 1, none⟩ (.int .i64 ((u.length : Int) + 1))).heap[w.heap.size]? = some zTok := (Below.heap_setCell _ _ _ _ (by simp; omega)).trans HX1.out
 have hk2 : (w1.setCell ⟨p, 1, none⟩ (.int .i64 ((u.length : Int) + 1))).heap[p]? = some (.cells #[.slice (some ⟨b, o, none⟩) ts.length c, .int .i64 ((u.length : Int) + 1), .int .i64 fin] 92 (0, 0)) := by
  rw [rSc (o := 1) HK.out]; simp
 generalize w1.setCell ⟨p, 1, none⟩ (.int .i64 ((u.length : Int) + 1)) = w2 at hp2 he2 hx2 hk2 ⊢
 have c0' := cOb (o := 0) hk2 rfl
 have c1' := cOb (o := 1) hk2 rfl
 have dl2 := lHp hk2
 have s0 := he2.cell T0.out HN.out
 have s1 := he2.cell T1.out HN.out
 have s2 := he2.cell T2.out HN.out
 have s3 := he2.cell T3.out HN.out
 have hbl2 : b < w2.heap.size := Nat.lt_of_lt_of_le hbl he2.size
 have i1 : IntKind.i64.wrap (u.length : Int) = u.length := IntWalk.i64_in _ ⟨by omega, by omega⟩
 have i2 : (u.length : Int) < ts.length := by omega
 have HX2 := Hi hx2
 have HP2 := Hi hp2
 have HE2 := Hi he2
 clear hp2 he2 hx2 hk2 c1 f1 dl hlen hfew
 go_still_tail 11, (by kernel_rfl)
 change wpList _ _ _ _ _ w2.drew
 have hx3 : w2.drew.heap[w.heap.size]? = some zTok := HX2.out
 have HP3 : Hid (PS w2.drew p fin ts l) := Hi (HP2.out.below (Below.refl _ _).drew)
 have HE3 : Hid (Eff p w w2.drew) := Hi (HE2.out.trans (Eff.of_below (Below.refl _ _).drew))
 generalize w2.drew = w3 at hx3 HP3 HE3 ⊢
 obtain ⟨d0, d1, d2, d3, f0, f1, f2, f3, dl⟩ := BoxT.mk' (w := w) hx3
 clear hx3 c0' c1' s0 s1 s2 s3 hbl2 dl2 i1 i2
 go_wp2_with fail
 have ho := ((((Off.refl w.heap.size w3).set (o := 0) (.int .i64 t.kind)).set (o := 1) (vs t.text)).set (o := 2) (.int .i64 t.n)).set (o := 3) (.int .i64 t.pos)
 refine bodyPost_ret (v := t.agg) (by simp [results, Tryz.results138, go_sem, *]) rfl ⟨rfl, ?_⟩
 exact ⟨HP3.out.off ho hpl, HE3.out.off ho (lR _)⟩
theorem check_no (e : Nat) (t : Tok) (w : World) : Calls Tryz.prog 139 #[.bool false, .int .i64 e, t.agg] w fun x w' => x = .returned (.tuple #[]) ∧ Below w.heap.size w w' := by
 simp only [Tok.agg]
 go_enter Tryz.func139, Tryz.ntmps139
 go_wp2_with fail
 go_end0
 exact ⟨rfl, (Below.refl _ _).alloc (lR _) _⟩
theorem check_yes (e : Nat) (t : Tok) (w : World) : Calls Tryz.prog 139 #[.bool true, .int .i64 e, t.agg] w fun x w' => x = stopE e t.pos ∧ Below w.heap.size w w' := by
 simp only [Tok.agg]
 go_enter Tryz.func139, Tryz.ntmps139
 go_wp2_with fail
 exact ⟨rfl, rfl, (Below.refl _ _).alloc (lR _) _⟩
theorem number_cases (l : List Tok) : (∃ t r, l = t :: r ∧ t.kind = 2 ∧ numberF l = .ok (t.n, r)) ∨ ((∀ fin, (headT fin l).kind ≠ 2) ∧ numberF l = .error (failC l, l)) := by
 cases l with
 | nil => exact .inr ⟨fun fin => by simp [headT], rfl⟩
 | cons t r =>
   by_cases h : t.kind = 2
   · exact .inl ⟨t, r, rfl, h, by simp [numberF, h]⟩
   · exact .inr ⟨fun fin => h, by simp [numberF, h, failR]⟩
theorem name_cases (l : List Tok) : (∃ t r, l = t :: r ∧ isNameF l = true ∧ nameF l = .ok (t.text, r)) ∨ (isNameF l = false ∧ nameF l = .error (failC l, l)) := by
 cases l with
 | nil => exact .inr ⟨rfl, rfl⟩
 | cons t r =>
   cases h : (t.kind == 1 && !keyF t.text) with
   | true => exact .inl ⟨t, r, rfl, h, by unfold nameF; simp only []; rw [h]; rfl⟩
   | false => exact .inr ⟨h, by unfold nameF; simp only []; rw [h]; rfl⟩
theorem limited_any (most : Nat) (p fin : Nat) (ts l : List Tok) (w : World) (hp : PS w p fin ts l) :
 Calls Tryz.prog 92 #[.pointer (some ⟨p, 0, none⟩), .int .i64 most] w (OutR p fin ts w (limitF most l) (fun n v _ => v = .int .i64 n)) := by
 have HP := Hi hp
 clear hp
 rcases number_cases l with ⟨t, r, rfl, hk, hn⟩ | ⟨hk, hn⟩
 · have HK := Hi hk
   by_cases hm : most < t.n
   · rw [show limitF most (t :: r) = .error (10, t :: r) by unfold limitF; rw [hn]; simp [bindR, hm]]
     have i1 : (most : Int) < t.n := by omega
     clear hk hn
     go_enter Tryz.func92, Tryz.ntmps92
     go_wp2_with fail
     refine (number_ok p fin ts t r _ HP.out HK.out).mono ?_
     rintro e w1 ⟨rfl, hp1, he1⟩
     have HE1 := Hi he1
     clear hp1 he1
     simp only [Tok.agg]
     go_wp2_with fail
     refine (check_yes 10 t _).mono ?_
     rintro e w2 ⟨rfl, hb2⟩
     have HE2 := Hi ((HE1.out.alloc _).trans (Eff.of_below hb2))
     clear hb2
     go_wp2_with fail
     exact ⟨rfl, rfl, HE2.out⟩
   · rw [show limitF most (t :: r) = .ok (t.n, r) by unfold limitF; rw [hn]; simp [bindR, hm]]
     have i1 : ¬ (most : Int) < t.n := by omega
     clear hk hn
     go_enter Tryz.func92, Tryz.ntmps92
     go_wp2_with fail
     refine (number_ok p fin ts t r _ HP.out HK.out).mono ?_
     rintro e w1 ⟨rfl, hp1, he1⟩
     have HE1 := Hi (he1.alloc (.cells #[.int .i64 t.kind, vs t.text, .int .i64 t.n, .int .i64 t.pos] 122 (0, 0)))
     have HP1 := Hi (hp1.below ((Below.refl _ _).alloc (lR _) (.cells #[.int .i64 t.kind, vs t.text, .int .i64 t.n, .int .i64 t.pos] 122 (0, 0))))
     have HX1 := Hi (heap_alloc_new w1 (.cells #[.int .i64 t.kind, vs t.text, .int .i64 t.n, .int .i64 t.pos] 122 (0, 0)))
     clear hp1 he1
     simp only [Tok.agg]
     go_wp2_with fail
     refine (check_no 10 t _).mono ?_
     rintro e w2 ⟨rfl, hb2⟩
     have HE2 := Hi (HE1.out.trans (Eff.of_below hb2))
     have HP2 := Hi (HP1.out.below hb2)
     have hx := (hb2.block _ (lHp HX1.out)).trans HX1.out
     have d2 := cOb (o := 2) hx rfl
     have dl := lHp hx
     clear hb2 hx
     go_wp2_with fail
     go_ret
     exact ⟨_, rfl, rfl, HP2.out, HE2.out⟩
 · rw [show limitF most l = .error (failC l, l) by unfold limitF; rw [hn]; rfl]
   have HK := Hi (hk fin)
   clear hk hn
   go_enter Tryz.func92, Tryz.ntmps92
   go_wp2_with fail
   refine (number_no p fin ts l _ HP.out HK.out).mono ?_
   rintro e w1 ⟨rfl, hb1⟩
   have HB1 := Hi hb1
   clear hb1
   go_wp2_with fail
   exact ⟨rfl, rfl, Eff.of_below HB1.out⟩
end So
namespace So
def tsz (fm : Bool) : Nat := if fm then 5 else 4
def tcs (fm : Bool) (op : Nat) (name : List UInt8) (cmp n : Nat) (s : Value) : List Value :=
 match fm with
 | true => [.int .i64 op, vs name, .int .i64 cmp, .int .i64 n, s]
 | false => [.int .i64 op, vs name, .int .i64 n, s]
mutual
def RdTree (fm : Bool) (S : Nat → Prop) (w : World) (cs : List Value) : Tree → Prop
 | .mk op name cmp n ks => ∃ A cap, cs = tcs fm op name cmp n (.slice A ks.length cap) ∧ ks.length ≤ cap ∧ (ks = [] ∨ ∃ b o, A = some ⟨b, o, none⟩ ∧ S b ∧ b < w.heap.size ∧ RdKids fm S w b o ks)
def RdKids (fm : Bool) (S : Nat → Prop) (w : World) (b : Nat) (o : Nat) : List Tree → Prop
 | [] => True
 | t :: r => (∃ cs, (∀ j v, cs[j]? = some v → w.cell? ⟨b, o + j, none⟩ = some v) ∧ RdTree fm S w cs t) ∧ RdKids fm S w b (o + tsz fm) r
end
mutual
theorem RdTree.keep {fm : Bool} {S S' : Nat → Prop} {w w' : World} (hs : w.heap.size ≤ w'.heap.size) (hk : ∀ b, S b → b < w.heap.size → S' b ∧ w'.heap[b]? = w.heap[b]?) : ∀ {cs : List Value} {t : Tree}, RdTree fm S w cs t → RdTree fm S' w' cs t
 | cs, .mk op name cmp n ks, h => by
   obtain ⟨A, cap, h1, h2, h3⟩ := h
   refine ⟨A, cap, h1, h2, ?_⟩
   rcases h3 with h3 | ⟨b, o, hA, hS, hb, h3⟩
   · exact .inl h3
   · exact .inr ⟨b, o, hA, (hk b hS hb).1, Nat.lt_of_lt_of_le hb hs, RdKids.keep hs hk (hk b hS hb).2 h3⟩
theorem RdKids.keep {fm : Bool} {S S' : Nat → Prop} {w w' : World} (hs : w.heap.size ≤ w'.heap.size) (hk : ∀ b, S b → b < w.heap.size → S' b ∧ w'.heap[b]? = w.heap[b]?) {b : Nat} (hb : w'.heap[b]? = w.heap[b]?) : ∀ {o : Nat} {ks : List Tree}, RdKids fm S w b o ks → RdKids fm S' w' b o ks
 | o, [], h => trivial
 | o, t :: r, h => by
   obtain ⟨⟨cs, h1, h2⟩, h3⟩ := h
   exact ⟨⟨cs, fun j v hv => (cOh hb _).trans (h1 j v hv), RdTree.keep hs hk h2⟩, RdKids.keep hs hk hb h3⟩
end
theorem RdTree.len {fm : Bool} {S : Nat → Prop} {w : World} {cs : List Value} {t : Tree} (h : RdTree fm S w cs t) : cs.length = tsz fm := by
 cases t with
 | mk op name cmp n ks =>
   obtain ⟨A, cap, rfl, _⟩ := h
   cases fm <;> rfl
theorem RdTree.one {fm : Bool} {S : Nat → Prop} {w : World} {cs : List Value} {t : Tree} (h : RdTree fm S w cs t) : ∀ u ∈ cs, u.oneCell' = true := by
 cases t with
 | mk op name cmp n ks =>
   obtain ⟨A, cap, rfl, _⟩ := h
   intro u hu
   cases fm <;> simp [tcs] at hu
   · rcases hu with rfl | rfl | rfl | rfl <;> rfl
   · rcases hu with rfl | rfl | rfl | rfl | rfl <;> rfl
theorem RdTree.leaf {fm : Bool} {S : Nat → Prop} {w : World} (op : Nat) (name : List UInt8) (cmp n : Nat) (A : Option Addr) (cap : Nat) : RdTree fm S w (tcs fm op name cmp n (.slice A 0 cap)) (.mk op name cmp n []) :=
 ⟨A, cap, rfl, Nat.zero_le _, .inl rfl⟩
/- kids that lie in a row of the call's own -/
theorem kids_of_row {fm : Bool} {S : Nat → Prop} {w : World} {b : Nat} : ∀ {l : List Tree} {css : List (List Value)} {o : Nat}, css.length = l.length → (∀ (i : Nat) (cs : List Value) (t : Tree), css[i]? = some cs → l[i]? = some t → RdTree fm S w cs t) → (∀ j v, css.flatten[j]? = some v → w.cell? ⟨b, o + j, none⟩ = some v) → RdKids fm S w b o l
 | [], css, o, _, _, _ => trivial
 | t :: r, [], o, h, _, _ => by simp at h
 | t :: r, cs :: css, o, h, hr, hc => by
   have h0 := hr 0 cs t rfl rfl
   have hl := h0.len
   refine ⟨⟨cs, fun j v hv => hc j v ?_, h0⟩, kids_of_row (css := css) (by simpa using h) (fun i c x h1 h2 => hr (i + 1) c x (by simpa using h1) (by simpa using h2)) (fun j v hv => ?_)⟩
   · rw [List.flatten_cons, List.getElem?_append_left (List.getElem?_eq_some_iff.1 hv).1]; exact hv
   · rw [Nat.add_assoc]
     refine hc (tsz fm + j) v ?_
     rw [List.flatten_cons, List.getElem?_append_right (by omega), hl, Nat.add_sub_cancel_left]; exact hv
def tE (fm : Bool) : TypeId := if fm then 24 else 28
/- where the row lies -/
/- a row of one -/
/- one more -/
theorem _root_.Go.Proofs.YtbicmjmcdnkjhaaGreatDoor.Eff.grown {p : Nat} {a w w' : World} {row : Option Nat} (h : Eff p a w) (hg : w.grownBy w' row) (hr : ∀ k, row = some k → a.heap.size ≤ k) : Eff p a w' :=
 ⟨hg.os.trans h.os, hg.tape.trans h.tape, hg.output.trans h.output, Nat.le_trans h.size hg.size, fun i hi hn => (hg.block i (Nat.lt_of_lt_of_le hi h.size) (fun e => by have := hr i e.symm; omega)).trans (h.block i hi hn)⟩
theorem PS.grown {w w' : World} {p fin : Nat} {ts l : List Tok} {row : Option Nat} (h : PS w p fin ts l) (hg : w.grownBy w' row) (hr : ∀ k, row = some k → p < k) : PS w' p fin ts l :=
 h.keep hg.size (fun b hb => hg.block b (Nat.lt_of_le_of_lt hb h.lt) (fun e => by have := hr b e.symm; omega))
theorem info_f : (Tryz.prog.info? 24).map (fun i => (i.zero, i.size, i.bytes)) = some (some (.agg #[.int .i64 0, .string ⟨#[]⟩, .int .i64 0, .int .i64 0, .slice none 0 0]), 5, 64) := by kernel_rfl
theorem info_s : (Tryz.prog.info? 28).map (fun i => (i.zero, i.size, i.bytes)) = some (some (.agg #[.int .i64 0, .string ⟨#[]⟩, .int .i64 0, .slice none 0 0]), 4, 56) := by kernel_rfl
theorem take_snoc {α : Type} {l : List α} {k : Nat} {x : α} (h : l[k]? = some x) : l.take (k + 1) = l.take k ++ [x] := by
 rw [List.take_add_one, h]; rfl
/- a kid -/
end So
end Go.Proofs.YtbicmjmcdnkjhaaGreatDoor
