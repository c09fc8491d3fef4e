/- The law of the first error. -/
import Derived.Test.YtcekampdldkjlaaDoorSGaps
import Derived.Deep.CutRange
set_option linter.unusedVariables false
set_option linter.unusedSimpArgs false
namespace Go.Proofs.YtcekampdldkjlaaDoor
open Go.RowKit
theorem wrap64_nat {k : Nat} (h : k < 9000000) : wrap64 ((k : Int) + 1) = ((k + 1 : Nat) : Int) := by unfold wrap64; omega
theorem lexOne_ne6 {c : UInt8} {r : List UInt8} {e : Nat} (h : lexOne c r = .error e) : e ≠ 6 := by
  unfold lexOne at h
  split at h
  · split at h
    · cases h; decide
    · cases h
  · split at h
    · split at h
      · cases h; decide
      · cases h
    · split at h
      · cases h
      · split at h
        · split at h <;> cases h
        · split at h
          · split at h
            · cases h
            · cases h; decide
          · cases h; decide
theorem sc_ne6 (l : List UInt8) (p : Nat) : ∀ e q, (sc l p).2 = some (e, q) → e ≠ 6 := by
  refine sc_ind (M := fun l p => ∀ e q, (sc l p).2 = some (e, q) → e ≠ 6) ?_ ?_ ?_ ?_ ?_ l.length l p (Nat.le_refl _)
  · intro p e q h; simp [sc_nil] at h
  · intro c r p h ih e q hq; rw [sc_blank _ _ h] at hq; exact ih e q hq
  · intro r p ih e q hq; rw [sc_hash] at hq; exact ih e q hq
  · intro c r p e h1 h2 h3 e' q hq; rw [sc_err _ h1 h2 h3] at hq; simp at hq; rw [← hq.1]; exact lexOne_ne6 h3
  · intro c r p j n v h1 h2 h3 ih e q hq
    rw [sc_tok _ h1 h2 h3] at hq
    exact ih e q hq
theorem lexF_ne6 {l : List UInt8} {e : Nat} {at' : Int} (h : lexF l = .error (e, at')) : e ≠ 6 := by
  unfold lexF at h
  rw [show scan l.length l 0 = sc l 0 from rfl] at h
  split at h
  · cases h; decide
  · split at h
    · cases h; decide
    · split at h
      · rename_i e' p' he
        cases h
        exact sc_ne6 l 0 _ _ he
      · cases h
theorem lexE_ne6 {l : List UInt8} (h : lexE l ≠ 0) : lexE l ≠ 6 := by
  unfold lexE at *
  split at h
  · exact absurd rfl h
  · rename_i e a h1
    first | exact lexF_ne6 h1 | (simp only [h1]; exact lexF_ne6 h1)
set_option maxRecDepth 100000 in
set_option maxHeartbeats 4000000 in
theorem first_any (l o : List UInt8) (w : World) (m : Int) (hm : w.cell? ⟨2, 0, none⟩ = some (.int .i64 m)) :
    Calls Tryd.prog 4 #[vs l, vs o] w fun e w' => e = .returned (.bool true) ∧ Below w.heap.size w w' := by
  have HM := Lib.hid hm
  clear hm
  go_enter Tryd.func4, Tryd.ntmps4
  go_wp2_with fail
  refine (head_any w m HM.out).mono ?_
  rintro e w1 ⟨rfl, hb1⟩
  have HB1 := Lib.hid hb1
  clear hb1
  by_cases hl : 2000 < l.length
  · have hl' : (2000 : Int) < l.length := by omega
    go_wp2_with fail
    go_ret
    exact ⟨rfl, HB1.out⟩
  have hl' : ¬ (2000 : Int) < l.length := by omega
  by_cases ho : 2000 < o.length
  · have ho' : (2000 : Int) < o.length := by omega
    go_wp2_with fail
    go_ret
    exact ⟨rfl, HB1.out⟩
  have ho' : ¬ (2000 : Int) < o.length := by omega
  go_wp2_with fail
  have HO := Lib.hid ho
  have HL := Lib.hid hl
  clear hl' ho' hl ho
  refine (lex_out l _).mono ?_
  rintro e w2 ⟨hb2, A, c, rfl, hrt, hc1, hc2⟩
  have HB2 : Hid (Below w.heap.size w w2) := Lib.hid (HB1.out.trans (hb2.mono HB1.out.size))
  clear hb2
  go_wp2_with fail
  refine (parse_out l _ m (maxc_below HM.out HB2.out)).mono ?_
  rintro e w3 ⟨hb3, c1, rfl, hr1⟩
  obtain ⟨st1, -⟩ := prov_io hr1
  have HB3 : Hid (Below w.heap.size w (w3.alloc (.cells c1.toArray 35 (0, 0)))) := Lib.hid ((HB2.out.trans (hb3.mono HB2.out.size)).alloc (by have := HB2.out.size; have := hb3.size; omega) _)
  have hrt3 : RdT (w3.alloc (.cells c1.toArray 35 (0, 0))) A (lexT l) := (hrt.below hb3).below ((Below.refl _ _).alloc (Nat.le_refl _) _)
  by_cases h0 : lexE l = 0
  case neg =>
    have h0' : ¬ (lexE l : Int) = 0 := by omega
    obtain ⟨hg, hz, -⟩ := out_no h0
    have h6 : ¬ (lexE l : Int) = 6 := by have := lexE_ne6 h0; omega
    rw [hz] at hr1
    obtain ⟨cc, B, cap, cb, cf, ca, hcs, -⟩ := hr1
    have x0 : (w3.alloc (.cells c1.toArray 35 (0, 0))).cell? ⟨w3.heap.size, 0, none⟩ = some (vs []) := by
      refine cell_of_blk (o := 0) (heap_alloc_new w3 _) ?_
      rw [hcs]; rfl
    clear hcs hz hb3 hrt hrt3
    rw [hg]
    go_wp2_with fail
    go_ret
    exact ⟨rfl, HB3.out⟩
  by_cases h5 : outE l = 0
  case pos =>
    rw [h0, h5]
    clear hb3 hrt hrt3
    go_wp2_with fail
    go_ret
    exact ⟨rfl, HB3.out⟩
  by_cases h6 : outE l = 6
  case pos =>
    have he := out_end h0 h6
    have hz := out_zero h5
    rw [hz] at hr1
    obtain ⟨cc, B, cap, cb, cf, ca, hcs, -⟩ := hr1
    have x0 : (w3.alloc (.cells c1.toArray 35 (0, 0))).cell? ⟨w3.heap.size, 0, none⟩ = some (vs []) := by
      refine cell_of_blk (o := 0) (heap_alloc_new w3 _) ?_
      rw [hcs]; rfl
    clear hcs hz hb3 hrt hrt3
    rw [h0, h6, he]
    clear he h5 h6 h0
    go_wp2_with fail
    go_ret
    exact ⟨rfl, HB3.out⟩
  obtain ⟨u, t, v, hts, hat, hu, hv, hend, hcut, hch⟩ := first_err (o := o) h0 h5 h6
  have hlen := lexT_len l
  rw [hts] at hrt3 hc1 hlen ⊢
  rw [h0, hat]
  obtain ⟨b, off, rfl, hbl, hg⟩ := hrt3 (by simp)
  have HG := Lib.hid hg
  have HU := Lib.hid hu
  have HV := Lib.hid hv
  have HCUT := Lib.hid hcut
  have HCH := Lib.hid hch
  have HC := Lib.hid hc1
  have HTS := Lib.hid hts
  have HEND := Lib.hid hend
  have n0 : ¬ (outE l : Int) = 0 := by omega
  have b0 : ((outE l : Int) == 0) = false := by simp; omega
  have b6 : ((outE l : Int) == 6) = false := by simp; omega
  have n6 : ¬ (outE l : Int) = 6 := by omega
  clear hg hu hv hcut hch hts hat h5 h0 hc1 hend h6 hrt hb3 hr1
  have hq : (u ++ t :: v).length = u.length + 1 + v.length := by simp; omega
  have HQ := Lib.hid hq
  generalize hts2 : u ++ t :: v = ts at *
  have HT2 := Lib.hid hts2
  clear hq hts2
  generalize hE : outE l = E0 at *
  clear hE
  have hGB : ∃ g, g = (t.text == [97, 108, 108] || t.text == [97, 110, 121]) := ⟨_, rfl⟩
  obtain ⟨gB, hGB⟩ := hGB
  have HGB := Lib.hid hGB
  clear hGB
  go_wp2_with fail
  clear st1
  go_loop [12, 13, 14] (fun v12 v13 v14 => ∃ k : Nat, k ≤ ts.length ∧ v14 = .int .i64 k ∧ (k ≤ u.length ∧ v12 = .int .i64 (-1) ∧ v13 = .bool false ∨ u.length < k ∧ v12 = .int .i64 ((t.pos : Int) + t.text.length) ∧ v13 = .bool gB)) (fun _ _ v14 => ts.length - (intOf v14).toNat)
  case atStart => exact ⟨0, Nat.zero_le _, rfl, .inl ⟨Nat.zero_le _, rfl, rfl⟩⟩
  case round =>
    obtain ⟨k, hkl, rfl, hv12⟩ := hrel
    by_cases hlt : k < ts.length
    · obtain ⟨x, hx⟩ := get_of_lt hlt
      obtain ⟨g3, g1⟩ := tok_get HG.out hx
      have hk1 : (k : Int) < ts.length := by omega
      have hwk := wrap64_nat (k := k) (by omega)
      by_cases hpos : x.pos = t.pos
      · have hpos' : (x.pos : Int) = t.pos := by omega
        have hxt : k = u.length ∧ x = t := by
          rw [← HT2.out] at hx
          rcases Nat.lt_trichotomy k u.length with h | h | h
          · rw [List.getElem?_append_left h] at hx
            have := HU.out x (List.mem_of_getElem? hx)
            omega
          · subst h
            rw [List.getElem?_append_right (Nat.le_refl _)] at hx
            simp at hx
            exact ⟨rfl, hx.symm⟩
          · obtain ⟨j, rfl⟩ : ∃ j, k = u.length + 1 + j := ⟨k - u.length - 1, by omega⟩
            rw [List.getElem?_append_right (by omega), show u.length + 1 + j - u.length = j + 1 by omega, List.getElem?_cons_succ] at hx
            have := HV.out x (List.mem_of_getElem? hx)
            omega
        obtain ⟨rfl, rfl⟩ := hxt
        have hw2 : wrap64 ((x.pos : Int) + x.text.length) = (x.pos : Int) + x.text.length := by
          have := HEND.out; have := HL.out
          rw [show (x.pos : Int) + x.text.length = ((x.pos + x.text.length : Nat) : Int) by omega]; unfold wrap64; omega
        clear hpos hpos' hv12
        cases ha : (x.text == [97, 108, 108]) with
        | true =>
          obtain rfl : gB = true := by rw [HGB.out, ha]; rfl
          go_wp2_with fail
          rw [hw2]
          exact ⟨⟨u.length + 1, hlt, rfl, .inr ⟨Nat.lt_succ_self _, rfl, rfl⟩⟩, Nat.sub_lt_sub_left hlt (Nat.lt_succ_self _)⟩
        | false =>
          cases hb : (x.text == [97, 110, 121]) with
          | true =>
            obtain rfl : gB = true := by rw [HGB.out, ha, hb]; rfl
            go_wp2_with fail
            rw [hw2]
            exact ⟨⟨u.length + 1, hlt, rfl, .inr ⟨Nat.lt_succ_self _, rfl, rfl⟩⟩, Nat.sub_lt_sub_left hlt (Nat.lt_succ_self _)⟩
          | false =>
            obtain rfl : gB = false := by rw [HGB.out, ha, hb]; rfl
            go_wp2_with fail
            rw [hw2]
            exact ⟨⟨u.length + 1, hlt, rfl, .inr ⟨Nat.lt_succ_self _, rfl, rfl⟩⟩, Nat.sub_lt_sub_left hlt (Nat.lt_succ_self _)⟩
      · have hpos' : ¬ (x.pos : Int) = t.pos := by omega
        have hne : k ≠ u.length := by
          rintro rfl
          rw [← HT2.out, List.getElem?_append_right (Nat.le_refl _)] at hx
          simp at hx
          exact hpos (by rw [hx])
        have HV12 : Hid (k + 1 ≤ u.length ∧ u12 = .int .i64 (-1) ∧ u13 = .bool false ∨ u.length < k + 1 ∧ u12 = .int .i64 ((t.pos : Int) + t.text.length) ∧ u13 = .bool gB) := Lib.hid (hv12.elim (fun h => .inl ⟨by omega, h.2⟩) (fun h => .inr ⟨by omega, h.2⟩))
        clear hv12
        go_wp2_with fail
        exact ⟨⟨k + 1, hlt, rfl, HV12.out⟩, Nat.sub_lt_sub_left hlt (Nat.lt_succ_self _)⟩
    · have hk1 : ¬ (k : Int) < ts.length := by omega
      have : k = ts.length := by omega
      subst this
      obtain ⟨rfl, rfl⟩ : u12 = .int .i64 ((t.pos : Int) + t.text.length) ∧ u13 = .bool gB := hv12.elim (fun h => by have := HQ.out; omega) (fun h => h.2)
      clear hv12
      have e1 : ¬ (t.pos : Int) + t.text.length < 0 := by omega
      have e2 : ¬ (l.length : Int) < (t.pos : Int) + t.text.length := by have := HEND.out; omega
      go_wp2_with fail
      rw [text_take]
      refine (parse_out (l.take t.pos) _ m (maxc_below HM.out HB3.out)).mono ?_
      rintro e w4 ⟨hb4, c2, rfl, hr2⟩
      obtain ⟨st2, -⟩ := prov_io hr2
      have HB4 : Hid (Below w.heap.size w w4) := Lib.hid (HB3.out.trans (hb4.mono HB3.out.size))
      clear hb4 hr2
      have hgood : outE (l.take t.pos) = 0 ∨ outE (l.take t.pos) = 6 ∧ outA (l.take t.pos) = t.pos := HCUT.out
      generalize outE (l.take t.pos) = er at hgood ⊢
      generalize outA (l.take t.pos) = ea at hgood ⊢
      have hw4 : ∀ P : Prop, (er = 0 → P) → (er = 6 → ea = t.pos → P) → P := fun P a b => hgood.elim a (fun h => b h.1 h.2)
      clear hgood
      have hone : 0 ≤ (t.pos : Int) + t.text.length := by omega
      apply hw4
      · rintro rfl
        go_wp2_with fail
        have htx : (({ data := l.toArray } : ByteArray).extract 0 (t.pos + t.text.length) ++ { data := #[10] } ++ { data := o.toArray }) = ⟨(l.take (t.pos + t.text.length) ++ 10 :: o).toArray⟩ := by
          rw [text_take, show ({ data := #[10] } : ByteArray) = ⟨([10] : List UInt8).toArray⟩ from rfl, text_app, text_app, List.append_assoc]; rfl
        generalize l.take (t.pos + t.text.length) ++ 10 :: o = ch at HCH htx
        have HTX := Lib.hid htx
        rw [htx]
        clear htx
        refine (lex_out ch _).mono ?_
        rintro e w5 ⟨hb5, A5, c5, rfl, -, -, -⟩
        have HB5 : Hid (Below w.heap.size w w5) := Lib.hid ((HB4.out.alloc HB4.out.size _).trans (hb5.mono (by have := HB4.out.size; simp; omega)))
        clear hb5 st2
        go_wp2_with fail
        rw [HTX.out]
        refine (parse_out ch _ m (maxc_below HM.out HB5.out)).mono ?_
        rintro e w6 ⟨hb6, c6, rfl, hr6⟩
        obtain ⟨st6, -⟩ := prov_io hr6
        have HB6 : Hid (Below w.heap.size w w6) := Lib.hid (HB5.out.trans (hb6.mono HB5.out.size))
        clear hb6 hr6
        cases gB with
        | true =>
          go_wp2_with fail
          go_ret
          exact ⟨rfl, HB6.out.alloc HB6.out.size _⟩
        | false =>
          have hgb := HGB.out
          simp only [Bool.false_eq, Bool.or_eq_false_iff, beq_eq_false_iff_ne] at hgb
          by_cases hz : lexE ch = 0
          · obtain ⟨k1, k2⟩ := HCH.out hgb.1 hgb.2 hz
            rw [hz, k1, k2]
            clear hgb
            go_wp2_with fail
            go_ret
            exact ⟨rfl, HB6.out.alloc HB6.out.size _⟩
          · have hz' : ¬ (lexE ch : Int) = 0 := by omega
            clear hgb
            go_wp2_with fail
            go_ret
            exact ⟨rfl, HB6.out.alloc HB6.out.size _⟩
      · rintro rfl rfl
        go_wp2_with fail
        have htx : (({ data := l.toArray } : ByteArray).extract 0 (t.pos + t.text.length) ++ { data := #[10] } ++ { data := o.toArray }) = ⟨(l.take (t.pos + t.text.length) ++ 10 :: o).toArray⟩ := by
          rw [text_take, show ({ data := #[10] } : ByteArray) = ⟨([10] : List UInt8).toArray⟩ from rfl, text_app, text_app, List.append_assoc]; rfl
        generalize l.take (t.pos + t.text.length) ++ 10 :: o = ch at HCH htx
        have HTX := Lib.hid htx
        rw [htx]
        clear htx
        refine (lex_out ch _).mono ?_
        rintro e w5 ⟨hb5, A5, c5, rfl, -, -, -⟩
        have HB5 : Hid (Below w.heap.size w w5) := Lib.hid ((HB4.out.alloc HB4.out.size _).trans (hb5.mono (by have := HB4.out.size; simp; omega)))
        clear hb5 st2
        go_wp2_with fail
        rw [HTX.out]
        refine (parse_out ch _ m (maxc_below HM.out HB5.out)).mono ?_
        rintro e w6 ⟨hb6, c6, rfl, hr6⟩
        obtain ⟨st6, -⟩ := prov_io hr6
        have HB6 : Hid (Below w.heap.size w w6) := Lib.hid (HB5.out.trans (hb6.mono HB5.out.size))
        clear hb6 hr6
        cases gB with
        | true =>
          go_wp2_with fail
          go_ret
          exact ⟨rfl, HB6.out.alloc HB6.out.size _⟩
        | false =>
          have hgb := HGB.out
          simp only [Bool.false_eq, Bool.or_eq_false_iff, beq_eq_false_iff_ne] at hgb
          by_cases hz : lexE ch = 0
          · obtain ⟨k1, k2⟩ := HCH.out hgb.1 hgb.2 hz
            rw [hz, k1, k2]
            clear hgb
            go_wp2_with fail
            go_ret
            exact ⟨rfl, HB6.out.alloc HB6.out.size _⟩
          · have hz' : ¬ (lexE ch : Int) = 0 := by omega
            clear hgb
            go_wp2_with fail
            go_ret
            exact ⟨rfl, HB6.out.alloc HB6.out.size _⟩
end Go.Proofs.YtcekampdldkjlaaDoor
