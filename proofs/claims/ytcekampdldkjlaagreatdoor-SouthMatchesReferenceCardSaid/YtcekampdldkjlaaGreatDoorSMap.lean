/- choose: a word out of a map. -/
import Derived.Test.YtcekampdldkjlaaGreatDoorSIs
import Derived.Maps.Own
import Derived.Maps.OwnOps
import Derived.Maps.OwnSet
import Derived.Maps.Views
set_option linter.unusedVariables false
set_option linter.unusedSimpArgs false
namespace Go.Proofs.YtcekampdldkjlaaGreatDoor
open Go.RowKit Go.Maps
abbrev MD := DataW Unit
def mapD : MD → Nat → List (List UInt8) → MD
  | D, _, [] => D
  | D, i, s :: r => mapD (D.put (.string s) (.lit (.int .i64 (i : Int)))) (i + 1) r
theorem str_key (s : List UInt8) : WideAt.IsKeyLit (.string s) := trivial
theorem mapD_isMap : ∀ (ws : List (List UInt8)) (D : MD) (i : Nat), IsMap D → IsMap (mapD D i ws)
  | [], D, i, h => h
  | s :: r, D, i, h => mapD_isMap r _ _ (h.put _ _)
theorem mapD_none : ∀ (ws : List (List UInt8)) (D : MD) (i : Nat) (s : List UInt8), s ∉ ws → has (mapD D i ws) (.string s) = has D (.string s) ∧ ∀ z, (mapD D i ws).atKey (.string s) z = D.atKey (.string s) z
  | [], D, i, s, _ => ⟨rfl, fun _ => rfl⟩
  | x :: r, D, i, s, h => by
    simp at h
    have hne : (Lit.string s) ≠ .string x := by intro e; injection e with e; exact h.1 e
    obtain ⟨h1, h2⟩ := mapD_none r (D.put (.string x) (.lit (.int .i64 (i : Int)))) (i + 1) s h.2
    exact ⟨h1.trans (has_put_other hne _), fun z => (h2 z).trans (atKey_put_other hne _ z)⟩
theorem mapD_some : ∀ (ws : List (List UInt8)) (D : MD) (i k : Nat) (s : List UInt8), IsMap D → ws.Nodup → ws[k]? = some s → has (mapD D i ws) (.string s) = true ∧ ∀ z, (mapD D i ws).atKey (.string s) z = .lit (.int .i64 ((i + k : Nat) : Int))
  | [], D, i, k, s, _, _, h => by simp at h
  | x :: r, D, i, 0, s, hm, hn, h => by
    simp at h
    subst h
    obtain ⟨h1, h2⟩ := mapD_none r (D.put (.string x) (.lit (.int .i64 (i : Int)))) (i + 1) x (List.nodup_cons.1 hn).1
    exact ⟨h1.trans (has_put_same hm (str_key x) _), fun z => (h2 z).trans (by rw [atKey_put_same hm (str_key x)]; rfl)⟩
  | x :: r, D, i, k + 1, s, hm, hn, h => by
    obtain ⟨h1, h2⟩ := mapD_some r (D.put (.string x) (.lit (.int .i64 (i : Int)))) (i + 1) k s (hm.put _ _) (List.nodup_cons.1 hn).2 (by simpa using h)
    exact ⟨h1, fun z => (h2 z).trans (by rw [show i + 1 + k = i + (k + 1) by omega])⟩
abbrev MapW (w : World) (b n base : Nat) (ws : List (List UInt8)) : Prop := w.ownsMap Tryz.prog 9 (plainElem (H := Unit) Tryz.prog 3) b n (mapD (.map []) base ws)
theorem MapW.of_heap {w w' : World} {b n base : Nat} {ws : List (List UInt8)} (h : MapW w b n base ws) (hh : w'.heap[b]? = w.heap[b]?) : MapW w' b n base ws := by
  obtain ⟨es, clock, hb, h1, h2, h3⟩ := h
  exact ⟨es, clock, hh.trans hb, h1, h2, h3⟩
theorem MapW.lt {w : World} {b n base : Nat} {ws : List (List UInt8)} (h : MapW w b n base ws) : b < w.heap.size := World.ownsMap.lt h
theorem zero_int (w : World) : (zeroValue 3).run Tryz.prog w = .ok (.int .i64 0) w := by kernel_rfl
theorem str_law : Keyed Tryz.prog 9 := string_keyed Tryz.underlying9
theorem choose_cases (ws : List (List UInt8)) (hn : ws.Nodup) (s : List UInt8) (base : Nat) : (∃ i, ws.idxOf? s = some i ∧ has (mapD (.map []) base ws) (.string s) = true ∧ ∀ z, (mapD (.map []) base ws).atKey (.string s) z = .lit (.int .i64 ((base + i : Nat) : Int))) ∨ (ws.idxOf? s = none ∧ has (mapD (.map []) base ws) (.string s) = false) := by
  cases h : ws.idxOf? s with
  | some i =>
    left
    have hi : ws[i]? = some s := by
      rw [List.idxOf?, List.findIdx?_eq_some_iff_getElem] at h
      obtain ⟨h1, h2, -⟩ := h
      rw [List.getElem?_eq_getElem h1]
      simpa using h2
    obtain ⟨h1, h2⟩ := mapD_some ws (.map []) base i s ⟨[], rfl⟩ hn hi
    exact ⟨i, rfl, h1, h2⟩
  | none =>
    right
    have hs : s ∉ ws := by
      intro hm
      have := List.isSome_idxOf?.2 hm
      rw [h] at this
      cases this
    exact ⟨rfl, (mapD_none ws _ base s hs).1⟩
theorem at_int {D : MD} {k : Lit} {i c : Int} (h : ∀ z, D.atKey k z = .lit (.int .i64 i)) (hc : D.atKey k (.lit (.int .i64 0)) = .lit (.int .i64 c)) : c = i := by
  rw [h] at hc
  cases hc
  rfl
set_option maxRecDepth 20000 in
set_option maxHeartbeats 800000 in
theorem choose_no (ws : List (List UInt8)) (base b n : Nat) (p fin : Nat) (ts l : List Tok) (w : World) (hp : PS w p fin ts l) (hm : MapW w b n base ws) (hno : (headT fin l).kind ≠ 1 ∨ has (mapD (.map []) base ws) (.string (headT fin l).text) = false) :
    Calls Tryz.prog 32 #[.pointer (some ⟨p, 0, none⟩), .map (some b)] w fun e w' => e = stopE (failC l) (posAt fin l) ∧ Below w.heap.size w w' := by
  have HP := Lib.hid hp
  have HM := Lib.hid hm
  have HNO := Lib.hid hno
  have HF := Lib.hid (headT_fit hp)
  clear hp hm hno
  go_enter Tryz.func32, Tryz.ntmps32
  go_wp2_with fail
  refine (peek_any p fin ts l _ HP.out).mono ?_
  rintro e w1 ⟨rfl, hb1⟩
  generalize headT fin l = T at HNO HF ⊢
  have HB2 := Lib.hid (hb1.alloc hb1.size (.cells #[.int .i64 T.kind, vs T.text, .int .i64 T.n, .int .i64 T.pos] 55 (0, 0)))
  have HP2 := Lib.hid (HP.out.below HB2.out)
  have HM2 := Lib.hid (HM.out.of_heap (HB2.out.block _ HM.out.lt))
  have hx := heap_alloc_new w1 (.cells #[.int .i64 T.kind, vs T.text, .int .i64 T.n, .int .i64 T.pos] 55 (0, 0))
  clear hb1
  simp only [Tok.agg]
  go_upto_region 2 with fail
  generalize w1.alloc (.cells #[.int .i64 T.kind, vs T.text, .int .i64 T.n, .int .i64 T.pos] 55 (0, 0)) = w2 at HB2 HP2 HM2 hx ⊢
  have d0 := cell_of_blk (o := 0) hx rfl
  have d1 := cell_of_blk (o := 1) hx rfl
  have dl := lt_of_heap' hx
  have hkey : keyOf Tryz.prog 9 (vs T.text) = some (.string T.text) := by
    have := Go.WideMaps.keyOf_string_mk Tryz.underlying9 (s := ⟨T.text.toArray⟩) (by have := HF.out.1; show T.text.toArray.size ≤ _; unfold maxLen; simp; omega)
    simpa using this
  have HKEY := Lib.hid hkey
  clear hx hkey
  cases hh : has (mapD (.map []) base ws) (.string T.text) with
  | false =>
    have HH := Lib.hid hh
    clear hh
    go_wp2_with (at_lookup; refine wpList_lookup_own_ok_int _ rfl _ _ 72 rfl 9 3 .i64 str_law Tryz.underlying72 Tryz.underlying3 (zero_int _) b n (mapD (.map []) base ws) rfl HM2.out _ _ rfl HKEY.out ?_; intro c hat hwc; clear hat hwc; rw [HH.out])
    refine (fail_any p fin ts l _ HP2.out).mono ?_
    rintro e w3 ⟨rfl, hb3⟩
    have HB3 := Lib.hid (HB2.out.trans (hb3.mono HB2.out.size))
    clear hb3
    go_wp2_with fail
    exact ⟨rfl, rfl, HB3.out⟩
  | true =>
    have HH := Lib.hid hh
    have hk : T.kind ≠ 1 := HNO.out.elim id (fun h => by rw [hh] at h; cases h)
    have i1 : ((T.kind : Int) == 1) = false := by simp; omega
    have i2 : ((T.kind : Int) != 1) = true := by simp; omega
    clear hh hk
    go_wp2_with (at_lookup; refine wpList_lookup_own_ok_int _ rfl _ _ 72 rfl 9 3 .i64 str_law Tryz.underlying72 Tryz.underlying3 (zero_int _) b n (mapD (.map []) base ws) rfl HM2.out _ _ rfl HKEY.out ?_; intro c hat hwc; clear hat hwc; rw [HH.out])
    refine (fail_any p fin ts l _ HP2.out).mono ?_
    rintro e w3 ⟨rfl, hb3⟩
    have HB3 := Lib.hid (HB2.out.trans (hb3.mono HB2.out.size))
    clear hb3
    go_wp2_with fail
    exact ⟨rfl, rfl, HB3.out⟩
set_option maxRecDepth 20000 in
set_option maxHeartbeats 800000 in
theorem choose_ok (ws : List (List UInt8)) (base b n i : Nat) (p fin : Nat) (ts : List Tok) (t : Tok) (l : List Tok) (w : World) (hp : PS w p fin ts (t :: l)) (hm : MapW w b n base ws) (hk : t.kind = 1) (hh : has (mapD (.map []) base ws) (.string t.text) = true)
    (hat : ∀ z, (mapD (.map []) base ws).atKey (.string t.text) z = .lit (.int .i64 ((base + i : Nat) : Int))) :
    Calls Tryz.prog 32 #[.pointer (some ⟨p, 0, none⟩), .map (some b)] w fun e w' => e = .returned (.int .i64 ((base + i : Nat) : Int)) ∧ PS w' p fin ts l ∧ Eff p w w' := by
  have HP := Lib.hid hp
  have HM := Lib.hid hm
  have HK := Lib.hid hk
  have HH := Lib.hid hh
  have HAT := Lib.hid hat
  have HF := Lib.hid (headT_fit (fin := fin) hp)
  clear hp hm hk hh hat
  go_enter Tryz.func32, Tryz.ntmps32
  go_wp2_with fail
  refine (peek_cons p fin ts t l _ HP.out).mono ?_
  rintro e w1 ⟨rfl, hb1⟩
  have HB2 := Lib.hid (hb1.alloc hb1.size (.cells #[.int .i64 t.kind, vs t.text, .int .i64 t.n, .int .i64 t.pos] 55 (0, 0)))
  have HM2 := Lib.hid (HM.out.of_heap (HB2.out.block _ HM.out.lt))
  have hx := heap_alloc_new w1 (.cells #[.int .i64 t.kind, vs t.text, .int .i64 t.n, .int .i64 t.pos] 55 (0, 0))
  clear hb1
  simp only [Tok.agg]
  go_upto_region 2 with fail
  generalize w1.alloc (.cells #[.int .i64 t.kind, vs t.text, .int .i64 t.n, .int .i64 t.pos] 55 (0, 0)) = w2 at HB2 HM2 hx ⊢
  have d0 := cell_of_blk (o := 0) hx rfl
  have d1 := cell_of_blk (o := 1) hx rfl
  have dl0 := lt_of_heap' hx
  have hkey : keyOf Tryz.prog 9 (vs t.text) = some (.string t.text) := by
    have hq : t.text.length ≤ 30 := HF.out.1
    have := Go.WideMaps.keyOf_string_mk Tryz.underlying9 (s := ⟨t.text.toArray⟩) (by show t.text.toArray.size ≤ _; unfold maxLen; simp; omega)
    simpa using this
  have HKEY := Lib.hid hkey
  obtain ⟨A, c, u, hh, hu, hr, hn, h1, h2⟩ := HP.out.is
  have HST := Lib.hid (fun i hi => PS.step HP.out HB2.out hh hu hr hn h1 h2 (i := i) hi)
  have hk := (HB2.out.block _ (lt_of_heap' hh)).trans hh
  have c1 : w2.cell? ⟨p, 1, none⟩ = some (.int .i64 u.length) := cell_of_blk (o := 1) hk rfl
  have f1 := frozen_of_blk (o := 1) hk
  have dl := lt_of_heap' hk
  have hlen : u.length < 5000 := by have := HP.out.few; rw [hu] at this; simp at this; omega
  have i1 : ((t.kind : Int) == 1) = true := by have := HK.out; simp; omega
  have i2 : ((t.kind : Int) != 1) = false := by have := HK.out; simp; omega
  clear hx hkey hh hu hr hn hk h1 h2
  go_wp2_with (at_lookup; refine wpList_lookup_own_ok_int _ rfl _ _ 72 rfl 9 3 .i64 str_law Tryz.underlying72 Tryz.underlying3 (zero_int _) b n (mapD (.map []) base ws) rfl HM2.out _ _ rfl HKEY.out ?_; intro c hat hwc; obtain rfl := at_int HAT.out hat; clear hat hwc; rw [HH.out])
  go_ret
  exact ⟨rfl, HST.out _ (by simp)⟩
theorem choose_any (ws : List (List UInt8)) (hn : ws.Nodup) (base b n : Nat) (p fin : Nat) (ts l : List Tok) (w : World) (hp : PS w p fin ts l) (hm : MapW w b n base ws) :
    Calls Tryz.prog 32 #[.pointer (some ⟨p, 0, none⟩), .map (some b)] w (OutR p fin ts w (chooseF ws l) (fun i v _ => v = .int .i64 ((base + i : Nat) : Int))) := by
  cases l with
  | nil => exact (choose_no ws base b n p fin ts [] w hp hm (.inl (by simp [headT]))).mono fun e w' ⟨h1, h2⟩ => ⟨h1, Eff.of_below h2⟩
  | cons t r =>
    by_cases hk : t.kind = 1
    · rcases choose_cases ws hn t.text base with ⟨i, h1, h2, h3⟩ | ⟨h1, h2⟩
      · rw [show chooseF ws (t :: r) = .ok (i, r) by unfold chooseF; simp only [hk, h1]; rfl]
        exact (choose_ok ws base b n i p fin ts t r w hp hm hk h2 h3).mono fun e w' ⟨h1, h2, h3⟩ => ⟨_, h1, rfl, h2, h3⟩
      · rw [show chooseF ws (t :: r) = .error (5, t :: r) by unfold chooseF; simp only [hk, h1]; rfl]
        exact (choose_no ws base b n p fin ts (t :: r) w hp hm (.inr h2)).mono fun e w' ⟨h1, h2⟩ => ⟨h1, Eff.of_below h2⟩
    · rw [show chooseF ws (t :: r) = .error (5, t :: r) by unfold chooseF; simp [hk, failR, failC]]
      exact (choose_no ws base b n p fin ts (t :: r) w hp hm (.inl hk)).mono fun e w' ⟨h1, h2⟩ => ⟨h1, Eff.of_below h2⟩
end Go.Proofs.YtcekampdldkjlaaGreatDoor
