/- The law of gaps. -/
import Derived.Test.YtcekampdldkjlaaDoorSSize
import Derived.Deep.CutRange
set_option linter.unusedVariables false
set_option linter.unusedSimpArgs false
namespace Go.Proofs.YtcekampdldkjlaaDoor
open Go.RowKit
theorem tok_get {W : World} {b off : Nat} {ts : List Tok} (h : ∀ k x, ts[k]? = some x → ∀ j v, (Tok.cells x)[j]? = some v → W.cell? ⟨b, off + k * 4 + j, none⟩ = some v) {k : Nat} {x : Tok} (hx : ts[k]? = some x) : W.cell? ⟨b, off + k * 4 + 3, none⟩ = some (.int .i64 x.pos) ∧ W.cell? ⟨b, off + k * 4 + 1, none⟩ = some (vs x.text) := ⟨h k x hx 3 _ rfl, h k x hx 1 _ rfl⟩
theorem text_take (l : List UInt8) (n : Nat) : ({ data := l.toArray } : ByteArray).extract 0 n = ⟨(l.take n).toArray⟩ := by rw [text_slice, List.drop_zero, Nat.sub_zero]
theorem text_app (a b : List UInt8) : (⟨a.toArray⟩ ++ ⟨b.toArray⟩ : ByteArray) = ⟨(a ++ b).toArray⟩ := by
  apply ByteArray.ext
  rw [ByteArray.data_append]
  simp
theorem placed_core : ∀ (ts : List Tok) (p : Nat), (placed ts p).map core = ts.map core
  | [], p => rfl
  | t :: r, p => by simp only [placed, List.map_cons, placed_core r]; rfl
theorem placed_length (ts : List Tok) (p : Nat) : (placed ts p).length = ts.length := by simpa using congrArg List.length (placed_core ts p)
theorem spaced_lex {l : List UInt8} {ts : List Tok} (hl : l.length ≤ 3000) (h : lexF l = .ok ts) : lexF (spaced ts) = .ok (placed ts 0) ∧ (spaced ts).length ≤ 6000 := by
  obtain ⟨h1, h2, h3⟩ := lexF_ok h
  have hp := sc_placed l 0
  rw [h1] at hp
  have hsl := spaced_len (l := ts) hp
  have hok := sc_ok l 0
  rw [h1] at hok
  refine ⟨lexF_mk (sc_spaced ts 0 hok) (by rw [placed_length]; exact h2) (by omega), by omega⟩
theorem spaced_app : ∀ (a b : List Tok), spaced (a ++ b) = spaced a ++ spaced b
  | [], b => rfl
  | t :: r, b => by rw [List.cons_append, spaced, spaced, spaced_app r b]; simp
theorem spaced_small {l : List UInt8} {ts : List Tok} (hl : l.length ≤ 3000) (h : lexF l = .ok ts) (k : Nat) : (spaced (ts.take k)).length ≤ 6000 := by
  have h2 := (spaced_lex hl h).2
  have : spaced ts = spaced (ts.take k) ++ spaced (ts.drop k) := by rw [← spaced_app, List.take_append_drop]
  rw [this] at h2
  simp at h2
  omega
theorem spaced_take {ts : List Tok} {k : Nat} {x : Tok} (hx : ts[k]? = some x) : spaced (ts.take (k + 1)) = spaced (ts.take k) ++ (x.text ++ [10]) := by
  rw [List.take_add_one, hx, spaced_app]
  simp [spaced]
theorem tok_text {w w' : World} {b off : Nat} {ts : List Tok} (h : RdT w (some ⟨b, off, none⟩) ts) (hb : Below w.heap.size w w') {k : Nat} {x : Tok} (hx : ts[k]? = some x) : w'.cell? ⟨b, off + k * 4 + 1, none⟩ = some (vs x.text) := by
  obtain ⟨b2, off2, he2, hbl2, hg2⟩ := h.below hb (by intro h; rw [h] at hx; simp at hx)
  cases he2
  exact (tok_get hg2 hx).2
theorem gaps_out {l : List UInt8} (hl : l.length ≤ 3000) (h0 : lexE l = 0) : outE (spaced (lexT l)) = outE l ∧ outP (spaced (lexT l)) = outP l := by
  have hlx := lexE_zero h0
  have hsp := (spaced_lex hl hlx).1
  have hsim := Sim.pr (lexT l) (placed (lexT l) 0) (placed_core _ 0).symm
  revert hsim
  generalize hx : pr (lexT l) = x
  generalize hy : pr (placed (lexT l) 0) = y
  intro hsim
  cases hsim with
  | ok p r r' h =>
    obtain ⟨a1, a2, -⟩ := out_ok hlx hx
    obtain ⟨b1, b2, -⟩ := out_ok hsp hy
    exact ⟨b2.trans a2.symm, b1.trans a1.symm⟩
  | err e s s' h =>
    obtain ⟨a1, a2, -⟩ := out_err hlx hx
    obtain ⟨b1, b2, -⟩ := out_err hsp hy
    exact ⟨b2.trans a2.symm, b1.trans a1.symm⟩
/- written -/
set_option maxRecDepth 20000 in
set_option maxHeartbeats 800000 in
theorem written_any (ts : List Tok) (A : Option Addr) (c : Nat) (w : World) (hr : RdT w A ts) (hl : ts.length ≤ 5000) (hsp : ∀ k, (spaced (ts.take k)).length ≤ 6000) :
    Calls Tryd.prog 11 #[.slice A ts.length c] w fun e w' => e = .returned (vs (spaced ts)) ∧ Below w.heap.size w w' := by
  have HR := Lib.hid hr
  have HSP := Lib.hid hsp
  clear hr hsp
  go_enter Tryd.func11, Tryd.ntmps11
  go_wp2_with fail
  go_loopw [3, 4] (fun v3 v4 wr => ∃ k : Nat, k ≤ ts.length ∧ v4 = .int .i64 k ∧ v3 = vs (spaced (ts.take k)) ∧ Below w.heap.size w wr) (fun _ v4 _ => ts.length - (intOf v4).toNat)
  case atStart => exact ⟨0, Nat.zero_le _, rfl, rfl, Below.refl _ _⟩
  case round =>
    obtain ⟨k, hkl, rfl, rfl, hbw⟩ := hrel
    have HBW := Lib.hid hbw
    clear hbw
    by_cases hlt : k < ts.length
    · obtain ⟨x, hx⟩ := get_of_lt hlt
      have hst := spaced_take hx
      have hk1 : (k : Int) < ts.length := by omega
      obtain ⟨b, off, rfl, hbl, hg⟩ := HR.out (by intro h; rw [h] at hx; simp at hx)
      have g1 := tok_text HR.out HBW.out hx
      have hs1 := HSP.out k
      have hs2 := HSP.out (k + 1)
      rw [hst] at hs2
      simp only [List.length_append, List.length_cons, List.length_nil] at hs2
      have HST := Lib.hid hst
      clear hst hx hg
      go_wp2_with fail
      refine ⟨⟨k + 1, hlt, by go_num, ?_, HBW.out⟩, by simp [intOf]; omega⟩
      rw [HST.out, show ({ data := #[10] } : ByteArray) = ⟨([10] : List UInt8).toArray⟩ from rfl, text_app, text_app, List.append_assoc]
    · have hk1 : ¬ (k : Int) < ts.length := by omega
      obtain rfl : k = ts.length := by omega
      go_wp2_with fail
      go_ret
      exact ⟨by first | rfl | rw [List.take_length], HBW.out⟩
set_option maxRecDepth 100000 in
set_option maxHeartbeats 4000000 in
theorem gaps_any (l : List UInt8) (w : World) (m : Int) (hm : w.cell? ⟨2, 0, none⟩ = some (.int .i64 m)) :
    Calls Tryd.prog 3 #[vs l] w fun e w' => e = .returned (.bool true) ∧ Below w.heap.size w w' := by
  have HM := Lib.hid hm
  clear hm
  go_enter Tryd.func3, Tryd.ntmps3
  go_wp2_with fail
  refine (head_any w m HM.out).mono ?_
  rintro e w1 ⟨rfl, hb1⟩
  have HB1 := Lib.hid hb1
  clear hb1
  by_cases hl : 2000 < l.length
  · have hl' : (2000 : Int) < l.length := by omega
    go_wp2_with fail
    go_ret
    exact ⟨rfl, HB1.out⟩
  have hl' : ¬ (2000 : Int) < l.length := by omega
  go_wp2_with fail
  have HL := Lib.hid hl
  clear hl' hl
  refine (lex_out l _).mono ?_
  rintro e w2 ⟨hb2, A, c, rfl, hrt, hc1, hc2⟩
  have HB2 : Hid (Below w.heap.size w w2) := Lib.hid (HB1.out.trans (hb2.mono HB1.out.size))
  have HRT := Lib.hid hrt
  have HC1 := Lib.hid hc1
  clear hb2 hrt hc1
  go_wp2_with fail
  refine (parse_out l _ m (maxc_below HM.out HB2.out)).mono ?_
  rintro e w3 ⟨hb3, cs1, rfl, hr1⟩
  obtain ⟨st1, ld1⟩ := prov_io hr1
  have HB3 : Hid (Below w.heap.size w w3) := Lib.hid (HB2.out.trans (hb3.mono HB2.out.size))
  have HRT3 := Lib.hid (HRT.out.below hb3)
  have HR1 := Lib.hid hr1
  clear hb3 hr1 HRT
  by_cases h0 : lexE l = 0
  case neg =>
    have h0' : ¬ (lexE l : Int) = 0 := by omega
    obtain ⟨hg, hz, -⟩ := out_no h0
    have hr1 := HR1.out
    rw [hz] at hr1
    obtain ⟨cc, B, cap, cb, cf, ca, hcs, -⟩ := hr1
    have x0 : (w3.alloc (.cells cs1.toArray 35 (0, 0))).cell? ⟨w3.heap.size, 0, none⟩ = some (vs []) := by
      refine cell_of_blk (o := 0) (heap_alloc_new w3 _) ?_
      rw [hcs]; rfl
    clear hcs hz
    rw [hg]
    go_wp2_with fail
    go_ret
    exact ⟨rfl, HB3.out.alloc HB3.out.size _⟩
  have HGO := Lib.hid (gaps_out (l := l) (by have := HL.out; omega) h0)
  have hlen := lexT_len l
  have HLX := lexE_zero h0
  have HSP := Lib.hid (fun k => spaced_small (ts := lexT l) (by have := HL.out; omega) HLX k)
  clear HLX
  rw [h0]
  generalize lexT l = ts at *
  clear h0
  have K1 : Hid ((w3.alloc (.cells cs1.toArray 35 (0, 0))).blk w3.heap.size = some (.cells cs1.toArray 35 (0, 0))) := Lib.hid (heap_alloc_new w3 _)
  have hal : Below w3.heap.size w3 (w3.alloc (.cells cs1.toArray 35 (0, 0))) := (Below.refl _ _).alloc (Nat.le_refl _) _
  have HB4 := Lib.hid (HB3.out.alloc HB3.out.size (.cells cs1.toArray 35 (0, 0)))
  have HRT4 := Lib.hid (HRT3.out.below hal)
  have HR4 := Lib.hid (HR1.out.below (n := 0) hal)
  clear hal HR1 HRT3
  go_upto_region 8 with fail
  clear st1
  generalize w3.alloc (.cells cs1.toArray 35 (0, 0)) = w4 at *
  go_wp2_with fail
  refine (written_any ts A c _ HRT4.out hlen HSP.out).mono ?_
  rintro e w5 ⟨rfl, hb5⟩
  have HB5 : Hid (Below w.heap.size w w5) := Lib.hid (HB4.out.trans (hb5.mono HB4.out.size))
  have HR5 := Lib.hid (HR4.out.below (n := 0) hb5)
  have K5 := Lib.hid ((hb5.block _ (lt_of_heap' K1.out)).trans K1.out)
  clear hb5 HR4 K1
  go_wp2_with fail
  refine (parse_out (spaced ts) _ m (maxc_below HM.out HB5.out)).mono ?_
  rintro e w6 ⟨hb6, cs2, rfl, hr6⟩
  obtain ⟨st2, ld2⟩ := prov_io hr6
  have HB6 : Hid (Below w.heap.size w w6) := Lib.hid (HB5.out.trans (hb6.mono HB5.out.size))
  have HR6 := Lib.hid (HR5.out.below (n := 0) hb6)
  have K6 := Lib.hid ((hb6.block _ (lt_of_heap' K5.out)).trans K5.out)
  have HRB := Lib.hid hr6
  clear hb6 HR5 K5 hr6
  rw [HGO.out.1]
  rw [HGO.out.2] at HRB
  have hal : Below w6.heap.size w6 (w6.alloc (.cells cs2.toArray 35 (0, 0))) := (Below.refl _ _).alloc (Nat.le_refl _) _
  have HB7 := Lib.hid (HB6.out.alloc HB6.out.size (.cells cs2.toArray 35 (0, 0)))
  have HR7 := Lib.hid (HR6.out.below (n := 0) hal)
  have HRB7 := Lib.hid (HRB.out.below (n := 0) hal)
  have K7 : (w6.alloc (.cells cs2.toArray 35 (0, 0))).blk w3.heap.size = some (.cells cs1.toArray 35 (0, 0)) := (hal.block _ (lt_of_heap' K6.out)).trans K6.out
  have K8 : (w6.alloc (.cells cs2.toArray 35 (0, 0))).blk w6.heap.size = some (.cells cs2.toArray 35 (0, 0)) := heap_alloc_new w6 _
  clear hal
  go_upto_region 9 with fail
  generalize w6.alloc (.cells cs2.toArray 35 (0, 0)) = w7 at *
  go_wp2_with fail
  obtain ⟨s1, s2, s3, s4, s5⟩ := out_small l
  refine (same_any (outP l) _ _ _ _ _ HR7.out HRB7.out s1 s2 s3 s4 s5).mono ?_
  rintro e w8 ⟨rfl, hb8⟩
  have HB8 : Hid (Below w.heap.size w w8) := Lib.hid (HB7.out.trans (hb8.mono HB7.out.size))
  clear hb8
  go_wp2_with fail
  go_ret
  exact ⟨rfl, HB8.out⟩
end Go.Proofs.YtcekampdldkjlaaDoor
