/- The law of the first error. -/
import Derived.Test.YtpagkakplmeokaaDoorNOut
import Derived.Deep.CutRange
set_option linter.unusedVariables false
set_option linter.unusedSimpArgs false
namespace Go.Proofs.YtpagkakplmeokaaDoor
open Go.RowKit
theorem tok_get {W : World} {b off : Nat} {ts : List Tok} (h : ∀ k x, ts[k]? = some x → ∀ j v, (Tok.cells x)[j]? = some v → W.cell? ⟨b, off + k * 4 + j, none⟩ = some v) {k : Nat} {x : Tok} (hx : ts[k]? = some x) : W.cell? ⟨b, off + k * 4 + 3, none⟩ = some (.int .i64 x.pos) ∧ W.cell? ⟨b, off + k * 4 + 1, none⟩ = some (vs x.text) := ⟨h k x hx 3 _ rfl, h k x hx 1 _ rfl⟩
theorem text_take (l : List UInt8) (n : Nat) : ({ data := l.toArray } : ByteArray).extract 0 n = ⟨(l.take n).toArray⟩ := by rw [text_slice, List.drop_zero, Nat.sub_zero]
theorem text_app (a b : List UInt8) : (⟨a.toArray⟩ ++ ⟨b.toArray⟩ : ByteArray) = ⟨(a ++ b).toArray⟩ := by
  apply ByteArray.ext
  rw [ByteArray.data_append]
  simp
set_option maxRecDepth 100000 in
set_option maxHeartbeats 4000000 in
theorem first_any (l o : List UInt8) (w : World) (m : Int) (hm : w.cell? ⟨2, 0, none⟩ = some (.int .i64 m)) :
    Calls Tryd.prog 4 #[vs l, vs o] w fun e w' => e = .returned (.bool true) ∧ Below w.heap.size w w' := by
  have HM := Lib.hid hm
  clear hm
  go_enter Tryd.func4, Tryd.ntmps4
  go_wp2_with fail
  refine (head_any w m HM.out).mono ?_
  rintro e w1 ⟨rfl, hb1⟩
  have HB1 := Lib.hid hb1
  clear hb1
  by_cases hl : 3000 < l.length
  · have hl' : (3000 : Int) < l.length := by omega
    go_wp2_with fail
    go_ret
    exact ⟨rfl, HB1.out⟩
  have hl' : ¬ (3000 : Int) < l.length := by omega
  by_cases ho : 3000 < o.length
  · have ho' : (3000 : Int) < o.length := by omega
    go_wp2_with fail
    go_ret
    exact ⟨rfl, HB1.out⟩
  have ho' : ¬ (3000 : Int) < o.length := by omega
  go_wp2_with fail
  have HO := Lib.hid ho
  have HL := Lib.hid hl
  clear hl' ho' hl ho
  refine (parse_out l _ m (maxc_below HM.out HB1.out)).mono ?_
  rintro e w2 ⟨hb2, c1, rfl, hr1⟩
  obtain ⟨st1, -⟩ := prov_io hr1
  have HB2 : Hid (Below w.heap.size w w2) := Lib.hid (HB1.out.trans (hb2.mono HB1.out.size))
  clear hb2 hr1
  go_wp2_with fail
  refine (lex_out l _).mono ?_
  rintro e w3 ⟨hb3, A, c, rfl, hrt, hc1, hc2⟩
  have HB3 : Hid (Below w.heap.size w w3) := Lib.hid ((HB2.out.alloc HB2.out.size _).trans (hb3.mono (by have := HB2.out.size; simp; omega)))
  clear hb3 st1
  by_cases h5 : outE l = 5
  case neg =>
    have h5' : ¬ (outE l : Int) = 5 := by omega
    go_wp2_with fail
    go_ret
    exact ⟨rfl, HB3.out⟩
  by_cases h0 : lexE l = 0
  case neg =>
    have h0' : ¬ (lexE l : Int) = 0 := by omega
    rw [h5]
    go_wp2_with fail
    go_ret
    exact ⟨rfl, HB3.out⟩
  have hfirst := first_err (o := o) (by have := HL.out; omega) (by have := HO.out; omega) h5 h0
  obtain ⟨u, t, v, hts, hat, hu, hv, hend, hcut, hch⟩ := hfirst
  have hlen := lexT_len l
  rw [hts] at hrt hc1 hlen ⊢
  rw [h5, h0, hat]
  obtain ⟨b, off, rfl, hbl, hg⟩ := hrt (by simp)
  have HG := Lib.hid hg
  have HU := Lib.hid hu
  have HV := Lib.hid hv
  have HCUT := Lib.hid hcut
  have HCH := Lib.hid hch
  have HC := Lib.hid hc1
  have HTS := Lib.hid hts
  have HEND := Lib.hid hend
  clear hg hu hv hcut hch hts hat h5 h0 hc1 hend
  have hq : (u ++ t :: v).length = u.length + 1 + v.length := by simp; omega
  have HQ := Lib.hid hq
  generalize hts2 : u ++ t :: v = ts at *
  have HT2 := Lib.hid hts2
  clear hq hts2
  go_wp2_with fail
  go_loop [12, 13] (fun v12 v13 => ∃ k : Nat, k ≤ ts.length ∧ v13 = .int .i64 k ∧ (k ≤ u.length ∧ v12 = .int .i64 (-1) ∨ u.length < k ∧ v12 = .int .i64 ((t.pos : Int) + t.text.length))) (fun _ v13 => ts.length - (intOf v13).toNat)
  case atStart => exact ⟨0, Nat.zero_le _, rfl, .inl ⟨Nat.zero_le _, rfl⟩⟩
  case round =>
    obtain ⟨k, hkl, rfl, hv12⟩ := hrel
    by_cases hlt : k < ts.length
    · obtain ⟨x, hx⟩ := get_of_lt hlt
      obtain ⟨g3, g1⟩ := tok_get HG.out hx
      have hk1 : (k : Int) < ts.length := by omega
      have hwk := wrap64_nat (k := k) (by omega)
      by_cases hpos : x.pos = t.pos
      · have hpos' : (x.pos : Int) = t.pos := by omega
        have hxt : k = u.length ∧ x = t := by
          rw [← HT2.out] at hx
          rcases Nat.lt_trichotomy k u.length with h | h | h
          · rw [List.getElem?_append_left h] at hx
            have := HU.out x (List.mem_of_getElem? hx)
            omega
          · subst h
            rw [List.getElem?_append_right (Nat.le_refl _)] at hx
            simp at hx
            exact ⟨rfl, hx.symm⟩
          · obtain ⟨j, rfl⟩ : ∃ j, k = u.length + 1 + j := ⟨k - u.length - 1, by omega⟩
            rw [List.getElem?_append_right (by omega), show u.length + 1 + j - u.length = j + 1 by omega, List.getElem?_cons_succ] at hx
            have := HV.out x (List.mem_of_getElem? hx)
            omega
        obtain ⟨rfl, rfl⟩ := hxt
        have hw2 : wrap64 ((x.pos : Int) + x.text.length) = (x.pos : Int) + x.text.length := by
          have := HEND.out; have := HL.out
          rw [show (x.pos : Int) + x.text.length = ((x.pos + x.text.length : Nat) : Int) by omega]; unfold wrap64; omega
        clear hpos hpos'
        go_wp2_with fail
        rw [hw2]
        exact ⟨⟨u.length + 1, hlt, rfl, .inr ⟨Nat.lt_succ_self _, rfl⟩⟩, Nat.sub_lt_sub_left hlt (Nat.lt_succ_self _)⟩
      · have hpos' : ¬ (x.pos : Int) = t.pos := by omega
        have hne : k ≠ u.length := by
          rintro rfl
          rw [← HT2.out, List.getElem?_append_right (Nat.le_refl _)] at hx
          simp at hx
          exact hpos (by rw [hx])
        have HV12 : Hid (k + 1 ≤ u.length ∧ u12 = .int .i64 (-1) ∨ u.length < k + 1 ∧ u12 = .int .i64 ((t.pos : Int) + t.text.length)) := Lib.hid (hv12.elim (fun h => .inl ⟨by omega, h.2⟩) (fun h => .inr ⟨by omega, h.2⟩))
        clear hv12
        go_wp2_with fail
        exact ⟨⟨k + 1, hlt, rfl, HV12.out⟩, Nat.sub_lt_sub_left hlt (Nat.lt_succ_self _)⟩
    · have hk1 : ¬ (k : Int) < ts.length := by omega
      have : k = ts.length := by omega
      subst this
      obtain rfl : u12 = .int .i64 ((t.pos : Int) + t.text.length) := hv12.elim (fun h => by have := HQ.out; omega) (fun h => h.2)
      clear hv12
      have e1 : ¬ (t.pos : Int) + t.text.length < 0 := by omega
      have e2 : ¬ (l.length : Int) < (t.pos : Int) + t.text.length := by have := HEND.out; omega
      go_wp2_with fail
      rw [text_take]
      refine (parse_out (l.take t.pos) _ m (maxc_below HM.out HB3.out)).mono ?_
      rintro e w4 ⟨hb4, c2, rfl, hr2⟩
      obtain ⟨st2, -⟩ := prov_io hr2
      have HB4 : Hid (Below w.heap.size w w4) := Lib.hid (HB3.out.trans (hb4.mono HB3.out.size))
      clear hb4 hr2
      have hgood : outE (l.take t.pos) = 0 ∨ outE (l.take t.pos) = 6 ∧ outA (l.take t.pos) = t.pos := HCUT.out
      generalize outE (l.take t.pos) = er at hgood ⊢
      generalize outA (l.take t.pos) = ea at hgood ⊢
      have hw4 : ∀ P : Prop, (er = 0 → P) → (er = 6 → ea = t.pos → P) → P := fun P a b => hgood.elim a (fun h => b h.1 h.2)
      clear hgood
      have hone : 0 ≤ (t.pos : Int) + t.text.length := by omega
      apply hw4
      · rintro rfl
        go_wp2_with fail
        have htx : (({ data := l.toArray } : ByteArray).extract 0 (t.pos + t.text.length) ++ { data := #[10] } ++ { data := o.toArray }) = ⟨(l.take (t.pos + t.text.length) ++ 10 :: o).toArray⟩ := by
          rw [text_take, show ({ data := #[10] } : ByteArray) = ⟨([10] : List UInt8).toArray⟩ from rfl, text_app, text_app, List.append_assoc]; rfl
        rw [htx]
        clear htx
        generalize l.take (t.pos + t.text.length) ++ 10 :: o = ch at HCH ⊢
        refine (lex_out ch _).mono ?_
        rintro e w5 ⟨hb5, A5, c5, rfl, -, -, -⟩
        have HB5 : Hid (Below w.heap.size w w5) := Lib.hid ((HB4.out.alloc HB4.out.size _).trans (hb5.mono (by have := HB4.out.size; simp; omega)))
        clear hb5 st2
        go_wp2_with fail
        refine (parse_out ch _ m (maxc_below HM.out HB5.out)).mono ?_
        rintro e w6 ⟨hb6, c6, rfl, hr6⟩
        obtain ⟨st6, -⟩ := prov_io hr6
        have HB6 : Hid (Below w.heap.size w w6) := Lib.hid (HB5.out.trans (hb6.mono HB5.out.size))
        clear hb6 hr6
        by_cases hz : lexE ch = 0
        · obtain ⟨k1, k2⟩ := HCH.out hz
          rw [hz, k1, k2]
          go_wp2_with fail
          go_ret
          exact ⟨rfl, HB6.out.alloc HB6.out.size _⟩
        · have hz' : ¬ (lexE ch : Int) = 0 := by omega
          go_wp2_with fail
          go_ret
          exact ⟨rfl, HB6.out.alloc HB6.out.size _⟩
      · rintro rfl rfl
        go_wp2_with fail
        have htx : (({ data := l.toArray } : ByteArray).extract 0 (t.pos + t.text.length) ++ { data := #[10] } ++ { data := o.toArray }) = ⟨(l.take (t.pos + t.text.length) ++ 10 :: o).toArray⟩ := by
          rw [text_take, show ({ data := #[10] } : ByteArray) = ⟨([10] : List UInt8).toArray⟩ from rfl, text_app, text_app, List.append_assoc]; rfl
        rw [htx]
        clear htx
        generalize l.take (t.pos + t.text.length) ++ 10 :: o = ch at HCH ⊢
        refine (lex_out ch _).mono ?_
        rintro e w5 ⟨hb5, A5, c5, rfl, -, -, -⟩
        have HB5 : Hid (Below w.heap.size w w5) := Lib.hid ((HB4.out.alloc HB4.out.size _).trans (hb5.mono (by have := HB4.out.size; simp; omega)))
        clear hb5 st2
        go_wp2_with fail
        refine (parse_out ch _ m (maxc_below HM.out HB5.out)).mono ?_
        rintro e w6 ⟨hb6, c6, rfl, hr6⟩
        obtain ⟨st6, -⟩ := prov_io hr6
        have HB6 : Hid (Below w.heap.size w w6) := Lib.hid (HB5.out.trans (hb6.mono HB5.out.size))
        clear hb6 hr6
        by_cases hz : lexE ch = 0
        · obtain ⟨k1, k2⟩ := HCH.out hz
          rw [hz, k1, k2]
          go_wp2_with fail
          go_ret
          exact ⟨rfl, HB6.out.alloc HB6.out.size _⟩
        · have hz' : ¬ (lexE ch : Int) = 0 := by omega
          go_wp2_with fail
          go_ret
          exact ⟨rfl, HB6.out.alloc HB6.out.size _⟩
end Go.Proofs.YtpagkakplmeokaaDoor
