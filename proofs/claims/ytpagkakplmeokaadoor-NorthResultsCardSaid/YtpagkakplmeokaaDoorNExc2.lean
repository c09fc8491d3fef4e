/- except: the loop. -/
import Derived.Test.YtpagkakplmeokaaDoorNExc
set_option linter.unusedVariables false
set_option linter.unusedSimpArgs false
namespace Go.Proofs.YtpagkakplmeokaaDoor
open Go.RowKit
abbrev StrV (w : World) (l : List (List UInt8)) (v : Value) (w' : World) : Prop := ∃ A cap, v = .slice A l.length cap ∧ l.length ≤ cap ∧ RdS w' A l ∧ ∀ b o, A = some ⟨b, o, none⟩ → w.heap.size ≤ b ∧ b < w'.heap.size
theorem exceptF_eq (n : Nat) (out : List (List UInt8)) (l : List Tok) : exceptF (n + 1) out l = bindR (nameF l) fun s r =>
      guardR l (excC out s) <| optF [[44]] r (fun _ r' => exceptF n (out ++ [s]) r') (fun r' => .ok (out ++ [s], r')) := rfl
set_option maxRecDepth 20000 in
set_option maxHeartbeats 800000 in
theorem except_any (p fin : Nat) (l : List Tok) (w : World) (hp : PS w p fin l) :
    Calls Tryd.prog 44 #[.pointer (some ⟨p, 0, none⟩)] w (OutR p fin w (exceptF 22 [] l) (StrV w)) := by
  have HP := Lib.hid hp
  have hpl := hp.lt
  clear hp
  go_enter Tryd.func44, Tryd.ntmps44
  go_wp2_with fail
  go_loopw [3] (fun v wr => ∃ (k : Nat) (acc : List (List UInt8)) (r : List Tok), acc.length + (k + 1) = 22 ∧ acc.length ≤ 20 ∧ exceptF 22 [] l = exceptF (k + 1) acc r ∧ PS wr p fin r ∧ Eff p w wr ∧ OwnS wr w.heap.size v acc) (fun _ wr => plen p wr)
  case atStart => exact ⟨21, [], l, rfl, by simp, rfl, HP.out, Eff.refl p w, OwnS.nil⟩
  case round =>
    obtain ⟨k, acc, r, hk, h20, hexc, hps, hef, hown⟩ := hrel
    obtain ⟨A, cap, rfl, hcap, hrd, hA⟩ := hown.form
    have HOWN := Lib.hid hown
    have HRD := Lib.hid hrd
    have HEX := Lib.hid hexc
    have HPS := Lib.hid hps
    have HEF := Lib.hid hef
    have HA := Lib.hid hA
    have hws := hef.size
    clear hown hrd hexc hps hef hA HP
    go_wp2_with fail
    refine (next_any p fin r _ HPS.out).mono ?_
    rintro e w1 ⟨rfl, hb1⟩
    have HB1 := Lib.hid hb1
    have HP1 := Lib.hid (HPS.out.below hb1)
    clear hb1
    simp only [Tok.agg]
    go_wp2_with fail
    refine calls_out (name_any p fin r _ HP1.out) ?_ ?_
    case refine_2 =>
      intro c s w2 hq he2
      have HQ := Lib.hid hq
      clear hq
      go_wp2_with fail
      refine ⟨rfl, ?_⟩
      rw [show exceptF 22 [] l = .error (c, s) by rw [HEX.out, exceptF_eq, HQ.out]; rfl]
      exact ⟨rfl, HEF.out.trans ((Eff.of_below HB1.out).trans he2)⟩
    case refine_1 =>
      intro s r2 v w2 hq hv hp2 he2
      subst hv
      have HQ := Lib.hid hq
      have HP2 := Lib.hid hp2
      have HE2 := Lib.hid ((Eff.of_below HB1.out).trans he2)
      have HO2 := Lib.hid (HOWN.out.eff ((Eff.of_below HB1.out).trans he2) hpl)
      clear hq hp2 he2
      go_wp2_with fail
      obtain ⟨A2, cap2, hv2, -, hrd2, -⟩ := HO2.out.form
      cases hv2
      refine (containsS_any acc A cap s _ hrd2 (by omega)).mono ?_
      rintro e w3 ⟨rfl, rfl⟩
      clear hrd2
      cases hc : acc.contains s with
      | true =>
        have HC := Lib.hid hc
        clear hc
        go_wp2_with fail
        refine ⟨rfl, ?_⟩
        rw [show exceptF 22 [] l = .error (9, r) by rw [HEX.out, exceptF_eq, HQ.out]; simp only [bindR, excC, HC.out, if_true, guardR]; rfl]
        refine ⟨?_, HEF.out.trans HE2.out⟩
        rw [← headT_pos]
        rfl
      | false =>
        have HC := Lib.hid hc
        clear hc
        by_cases h2 : acc.length = 20
        · have y1 : ((acc.length : Int) == 20) = true := by simp; omega
          have H2 := Lib.hid h2
          clear h2
          go_wp2_with fail
          refine ⟨rfl, ?_⟩
          rw [show exceptF 22 [] l = .error (2, r) by rw [HEX.out, exceptF_eq, HQ.out]; simp only [bindR, excC, HC.out, H2.out, if_true, guardR]; rfl]
          refine ⟨?_, HEF.out.trans HE2.out⟩
          rw [← headT_pos]
          rfl
        · have y1 : ((acc.length : Int) == 20) = false := by simp; omega
          have H2 := Lib.hid h2
          have hs2 := HE2.out.size
          have hcell : (w2.alloc (.cells #[vs s] 9 (0, 0))).cell? ⟨w2.heap.size, 0, none⟩ = some (vs s) := cell_of_blk (heap_alloc_new w2 _) rfl
          have HCELL := Lib.hid hcell
          have HO3 := Lib.hid (HO2.out.eff (eff_alloc p w2 (.cells #[vs s] 9 (0, 0))) hpl)
          have hsz3 : w.heap.size ≤ (w2.alloc (.cells #[vs s] 9 (0, 0))).heap.size := by simp; omega
          have HSZ3 := Lib.hid hsz3
          clear h2 hcell hsz3
          go_wp2_with (at_builtin; refine wpList_append_str rfl (.tmp 25) (.tmp 27) rfl w.heap.size (.slice A acc.length cap) acc w2.heap.size s rfl rfl HO3.out HCELL.out (by omega) HSZ3.out ?_; intro v' w3 ho hg)
          have hown' := HO3.out.own
          have HP3 := Lib.hid ((fits_alloc HP2.out (.cells #[vs s] 9 (0, 0))).grown hg (fun b hb => by have := (hown' b hb).1; omega))
          have HE3 := Lib.hid (((HEF.out.trans HE2.out).trans (eff_alloc p w2 (.cells #[vs s] 9 (0, 0)))).grown hg (fun b hb => (hown' b hb).1))
          have HOW := Lib.hid ho
          have hnl := nameF_len HQ.out
          have HNX := Lib.hid (show exceptF (k + 1) acc r = optF [[44]] r2 (fun _ r' => exceptF k (acc ++ [s]) r') (fun r' => .ok (acc ++ [s], r')) by rw [exceptF_eq, HQ.out]; simp only [bindR, excC, HC.out, H2.out, if_false, Bool.false_eq_true, guardR, if_true])
          clear hg ho
          refine take_out [[44]] _ 1 rfl 1 p fin r2 _ (fits_alloc HP3.out _) (RdS.new (alloc_at rfl)) (by omega) ?_ ?_
          case refine_1 =>
            intro w4 ht hp4 he4
            have HT := Lib.hid ht
            have HP4 := Lib.hid hp4
            have HE4 := Lib.hid ((eff_alloc p w3 _).trans he4)
            clear ht hp4 he4
            go_wp2_with fail
            go_ret
            rw [show exceptF 22 [] l = .ok (acc ++ [s], r2) by rw [HEX.out, HNX.out]; simp only [optF, HT.out]]
            exact ⟨_, rfl, (HOW.out.eff HE4.out hpl).form, HP4.out, HE3.out.trans HE4.out⟩
          case refine_2 =>
            intro i r3 w4 ht hi hr3 hp4 he4
            have HT := Lib.hid ht
            have HP4 := Lib.hid hp4
            have HE4 := Lib.hid ((eff_alloc p w3 _).trans he4)
            have hi0 : decide ((i : Int) < 0) = false := idx_neg i
            have hi1 : ¬ (i : Int) < 0 := by omega
            obtain ⟨k', rfl⟩ : ∃ k', k = k' + 1 := ⟨k - 1, by omega⟩
            clear ht hp4 he4
            go_wp2_with fail
            have h2 := H2.out
            refine ⟨⟨k', acc ++ [s], r3, by simp; omega, by simp; omega, ?_, HP4.out, HE3.out.trans HE4.out, HOW.out.eff HE4.out hpl⟩, ?_⟩
            · rw [HEX.out, HNX.out]; simp only [optF, HT.out]
            · rw [HP4.out.plen, HPS.out.plen]; omega
end Go.Proofs.YtpagkakplmeokaaDoor
