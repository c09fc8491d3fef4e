/- The law of absent parts: free, part. -/
import Derived.Test.YtpagkakplmeokaaDoorNIn
set_option linter.unusedVariables false
set_option linter.unusedSimpArgs false
namespace Go.Proofs.YtpagkakplmeokaaDoor
open Go.RowKit
theorem part_any (ww text o : List UInt8) (out : Bool) (w : World) (h1 : ww.length ≤ 100) (h2 : text.length ≤ 100000) (h3 : o.length ≤ 100) : Calls Tryd.prog 18 #[vs ww, vs text, vs o, .bool out] w fun e w' => e = .returned (vs (partB ww o text out)) ∧ w = w' := by
  have q1 : ¬ 9223372036854775807 < 1 + ww.length := by omega
  have q2 : ¬ 9223372036854775807 < 1 + ww.length + 1 := by omega
  have q5 : ¬ 9223372036854775807 < 1 + ww.length + 1 + o.length := by omega
  cases text with
  | nil =>
    cases out
    · go_enter Tryd.func18, Tryd.ntmps18
      go_wp2_with fail
      go_ret
      exact ⟨by unfold partB; rw [if_neg (by simp), if_neg (by simp), show ({ data := #[32] } : ByteArray) = ⟨([32] : List UInt8).toArray⟩ from rfl]; simp only [text_app]; simp, rfl⟩
    · go_enter Tryd.func18, Tryd.ntmps18
      go_wp2_with fail
      go_ret
      exact ⟨rfl, rfl⟩
  | cons c r =>
    have q3 : ¬ 9223372036854775807 < 1 + ww.length + 1 + (c :: r).length := by omega
    have q4 : ¬ 9223372036854775807 < 1 + ww.length + 1 + (c :: r).length + 1 := by omega
    have hne : c :: r ≠ [] := by simp
    have he : (c :: r).isEmpty = false := rfl
    generalize c :: r = t at *
    have HNE := Lib.hid hne
    clear hne
    go_enter Tryd.func18, Tryd.ntmps18
    go_wp2_with fail
    go_ret
    exact ⟨by unfold partB; rw [if_pos HNE.out, show ({ data := #[32] } : ByteArray) = ⟨([32] : List UInt8).toArray⟩ from rfl, show ({ data := #[10] } : ByteArray) = ⟨([10] : List UInt8).toArray⟩ from rfl]; simp only [text_app]; simp, rfl⟩
theorem lexE_ne {l : List UInt8} {ts : List Tok} (h : lexE l = 0) : lexF l = .ok (lexT l) := lexE_zero h
theorem freeF_def (l : List UInt8) : freeF l = (decide (l.length ≤ 1500) && decide (lexE l = 0) && (lexT l).all fun t => !stopW.contains t.text) := by
  by_cases h : lexE l = 0
  · unfold freeF
    rw [lexE_zero h, h]; simp
  · rw [decide_eq_false h]
    unfold freeF lexE at *
    cases hq : lexF l with
    | ok ts => rw [hq] at h; exact absurd rfl h
    | error v => simp
theorem ix_contains (l : List (List UInt8)) (s : List UInt8) : l.contains s = (ixS l s).isSome := by
  rw [ixS_eq, Bool.eq_iff_iff, List.isSome_idxOf?, List.contains_iff_mem]
theorem below_succ' {ts : List Tok} {k : Nat} {x : Tok} (hx : ts[k]? = some x) (hp : stopW.contains x.text = false) (hno : ∀ (j : Nat) y, ts[j]? = some y → j < k → stopW.contains y.text = false) : ∀ (j : Nat) y, ts[j]? = some y → j < k + 1 → stopW.contains y.text = false :=
  below_succ (p := fun t => stopW.contains t.text) hx hp hno
theorem all_no {ts : List Tok} {k : Nat} {x : Tok} (hx : ts[k]? = some x) (hp : stopW.contains x.text = true) : (ts.all fun t => !stopW.contains t.text) = false := by
  rw [List.all_eq_false]
  exact ⟨x, List.mem_of_getElem? hx, by simp only [hp]; simp⟩
theorem all_yes {ts : List Tok} (hno : ∀ (j : Nat) y, ts[j]? = some y → j < ts.length → stopW.contains y.text = false) : (ts.all fun t => !stopW.contains t.text) = true := by
  rw [List.all_eq_true]
  intro x hx
  obtain ⟨j, hj⟩ := List.mem_iff_getElem?.1 hx
  rw [hno j x hj (List.getElem?_eq_some_iff.1 hj).1]; rfl
theorem row_rd {w : World} {b : Nat} {C : Array Value} {l : List (List UInt8)} (h : w.heap[b]? = some (.cells C 9 (0, 0))) (hC : C = (l.map vs).toArray) : RdS w (some ⟨b, 0, none⟩) l := by
  intro _
  refine ⟨b, 0, rfl, lt_of_heap' h, fun k x hx j v hv => ?_⟩
  cases j with
  | zero =>
    simp at hv
    subst hv
    rw [show 0 + k * 1 + 0 = k by omega]
    exact cell_of_blk h (by rw [hC]; simp [hx])
  | succ j => simp at hv
set_option maxRecDepth 100000 in
set_option maxHeartbeats 1000000 in
theorem free_any (l : List UInt8) (w : World) : Calls Tryd.prog 17 #[vs l] w fun e w' => e = .returned (.bool (freeF l)) ∧ Below w.heap.size w w' := by
  go_enter Tryd.func17, Tryd.ntmps17
  go_wp2_with fail
  refine (lex_out l _).mono ?_
  rintro e w2 ⟨hb2, A, c, rfl, hrt, hc1, hc2⟩
  have HB2 := Lib.hid hb2
  have HRT := Lib.hid hrt
  have HDEF := Lib.hid (freeF_def l)
  have hlen := lexT_len l
  clear hb2 hrt
  by_cases h0 : lexE l = 0
  case neg =>
    have h0' : ¬ (lexE l : Int) = 0 := by omega
    go_wp2_with fail
    go_ret
    exact ⟨by rw [HDEF.out, decide_eq_false h0]; simp, HB2.out⟩
  by_cases hl : 1500 < l.length
  · have hl' : (1500 : Int) < l.length := by omega
    rw [h0]
    go_wp2_with fail
    go_ret
    exact ⟨by rw [HDEF.out, decide_eq_false (by omega)]; simp, HB2.out⟩
  have hl' : ¬ (1500 : Int) < l.length := by omega
  have HD : Hid (freeF l = (lexT l).all fun t => !stopW.contains t.text) := Lib.hid (by rw [HDEF.out, decide_eq_true (by omega), decide_eq_true h0]; simp)
  rw [h0]
  generalize lexT l = ts at *
  clear h0 HDEF
  go_wp2_with fail
  have hst : RdS (w2.alloc (.cells #[vs [105, 102], vs [110, 111, 116, 119, 105, 116, 104, 115, 116, 97, 110, 100, 105, 110, 103], vs [102, 114, 111, 109], vs [117, 110, 116, 105, 108], vs [97, 103, 97, 105, 110], vs [46]] 9 (0, 0))) (some ⟨w2.heap.size, 0, none⟩) stopW :=
    row_rd (heap_alloc_new w2 _) (by kernel_rfl)
  have hal : Below w2.heap.size w2 (w2.alloc (.cells #[vs [105, 102], vs [110, 111, 116, 119, 105, 116, 104, 115, 116, 97, 110, 100, 105, 110, 103], vs [102, 114, 111, 109], vs [117, 110, 116, 105, 108], vs [97, 103, 97, 105, 110], vs [46]] 9 (0, 0))) := (Below.refl _ _).alloc (Nat.le_refl _) _
  have HB3 := Lib.hid (HB2.out.trans (hal.mono HB2.out.size))
  have HRT3 := Lib.hid (HRT.out.below hal)
  have HST := Lib.hid hst
  clear hal hst HRT
  generalize hW : World.alloc w2 _ = w3
  rw [hW] at HB3 HRT3 HST
  clear hW
  go_loop [7] (fun v => ∃ k : Nat, k ≤ ts.length ∧ v = .int .i64 k ∧ ∀ (j : Nat) x, ts[j]? = some x → j < k → stopW.contains x.text = false) (fun v => ts.length - (intOf v).toNat)
  case atStart => exact ⟨0, Nat.zero_le _, rfl, fun _ _ _ h => absurd h (by omega)⟩
  case round =>
    obtain ⟨k, hk, rfl, hno⟩ := hrel
    have Hno := Lib.hid hno; clear hno
    by_cases hlt : k < ts.length
    · obtain ⟨x, hx⟩ := get_of_lt hlt
      obtain ⟨b, off, rfl, hbl, hg⟩ := HRT3.out (by rintro rfl; simp at hlt)
      obtain ⟨g3, g1⟩ := tok_get hg hx
      have HX := Lib.hid hx
      have hk1 : (k : Int) < ts.length := by omega
      clear hx hg g3
      go_wp2_with fail
      refine (in_any stopW _ 6 x.text _ HST.out (by decide)).mono ?_
      rintro e w4 ⟨rfl, rfl⟩
      have hic := ix_contains stopW x.text
      cases hi : ixS stopW x.text with
      | none =>
        rw [hi] at hic
        have HIC := Lib.hid hic
        clear hic
        go_wp2_with fail
        exact ⟨⟨k + 1, hlt, by go_num, below_succ' HX.out HIC.out Hno.out⟩, by simp [intOf]; omega⟩
      | some i =>
        rw [hi] at hic
        have HIC := Lib.hid hic
        clear hic
        go_wp2_with fail
        go_ret
        exact ⟨by rw [HD.out, all_no HX.out HIC.out]; rfl, HB3.out⟩
    · have : k = ts.length := by omega
      subst this
      have hk1 : ¬ ((ts.length : Nat) : Int) < ts.length := by omega
      go_wp2_with fail
      go_ret
      exact ⟨by rw [HD.out, all_yes Hno.out]; rfl, HB3.out⟩
end Go.Proofs.YtpagkakplmeokaaDoor
