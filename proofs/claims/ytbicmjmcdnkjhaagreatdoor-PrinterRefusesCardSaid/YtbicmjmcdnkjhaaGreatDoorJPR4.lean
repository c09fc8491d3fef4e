/- The law PrinterRefuses. -/
import Derived.Test.YtbicmjmcdnkjhaaGreatDoorJP36
import Derived.Test.YtbicmjmcdnkjhaaGreatDoorJPR3
import Derived.Deep.CutRange
set_option linter.unusedVariables false
set_option linter.unusedSimpArgs false
namespace Go.Proofs.YtbicmjmcdnkjhaaGreatDoor
open Go.RowKit
/- the list so far: rows that cannot be written, as the entry's world reads them -/
def LsAt (w wc : World) (qb : Nat) (cs : List Value) (v : Value) (k : Nat) : Prop := ∃ (D : List Value) (Ls : List (List Value)), RSt w wc qb cs D v Ls [] ∧ Ls.length ≤ k ∧ ∀ r ∈ Ls, RowBad w r
theorem RSt.start {w wx : World} {cs : List Value} (D : List Value) (hb : Below w.heap.size w wx) (hp : wx.blk w.heap.size = some (.cells cs.toArray 30 (0, 0))) (hl : D.length = 23) : RSt w (wx.alloc (.cells D.toArray 30)) wx.heap.size cs D (.slice none 0 0) [] [] :=
  ⟨hb.alloc hb.size _, (Below.heap_alloc _ _ _ (lt_of_heap' hp)).trans hp, heap_alloc_new wx _, hl, lt_of_heap' hp, World.ownsRow_nil _ _ _ _, (by simp [Value.ownBlock]), (by simp)⟩
set_option maxRecDepth 100000
set_option maxHeartbeats 4000000 in
theorem refuses_any (w : World) (cs : List Value) (P : ProvI) (n : Int) (hr : RdPX w cs P) (hp : plainP P) (hm : P.exc.length ≤ maxLen) (hn : -9223372036854775808 ≤ n ∧ n ≤ 9223372036854775807) (ht : Tabs w) :
    Calls Tryz.prog 6 #[.agg cs.toArray, .int .i64 n] w fun e w' => e = .returned (.bool true) ∧ Below w.heap.size w w' := by
  obtain ⟨-, ld1⟩ := rdpx_io hr
  have HT := Lib.hid ht
  have HR := Lib.hid hr
  have HP := Lib.hid hp
  have HN := Lib.hid hn
  have HX := Lib.hid (BxSt.start w cs.toArray 30)
  clear ht hr hp hn
  go_enter Tryz.func6, Tryz.ntmps6
  go_wp2_with fail
  refine (head_any _ (HT.out.below HX.out.below)).mono ?_
  rintro e w1 ⟨rfl, hb⟩
  have H1 := Lib.hid (HX.out.step hb)
  have k1 : w1.blk w.heap.size = some (.cells cs.toArray 30 (0, 0)) := H1.out.blk
  have l1 := lt_of_heap' H1.out.blk
  clear hb HX
  go_wp2_with fail
  cases hf1 : fewI P with
  | false =>
    refine (few_any w1 cs P (HR.out.keep H1.out.below) hm false hf1).mono ?_
    rintro e w2 ⟨rfl, hb⟩
    have H2 := Lib.hid (H1.out.step hb)
    clear hb k1 l1
    go_wp2_with fail
    go_ret
    exact ⟨rfl, H2.out.below⟩
  | true =>
  refine (few_any w1 cs P (HR.out.keep H1.out.below) hm true hf1).mono ?_
  rintro e w2 ⟨rfl, hb⟩
  have H2 := Lib.hid (H1.out.step hb)
  clear hb k1 l1
  have k1 : w2.blk w.heap.size = some (.cells cs.toArray 30 (0, 0)) := H2.out.blk
  have l1 := lt_of_heap' H2.out.blk
  have HF := Lib.hid (fewI_iff.1 hf1)
  clear hf1
  have hab := arg_both P
  obtain ⟨NP, hNP⟩ : ∃ x, northA P = x := ⟨_, rfl⟩
  obtain ⟨SP, hSP⟩ : ∃ x, southA P = x := ⟨_, rfl⟩
  rw [hNP, hSP] at hab
  obtain ⟨t0, e0⟩ := NP
  obtain ⟨t1, e1⟩ := SP
  simp only at hab
  have HAB := Lib.hid hab
  have HNP := Lib.hid hNP
  have HSP := Lib.hid hSP
  clear hNP hSP hab
  go_wp2_with fail
  refine (north_p w w2 cs P HR.out H2.out.below HT.out HP.out HF.out).mono ?_
  rintro e4 w4 ⟨rfl, hb⟩
  rw [HNP.out]
  have H4 := Lib.hid (H2.out.step hb)
  clear hb k1 l1
  have k1 : w4.blk w.heap.size = some (.cells cs.toArray 30 (0, 0)) := H4.out.blk
  have l1 := lt_of_heap' H4.out.blk
  go_wp2_with fail
  refine (south_p w w4 cs P HR.out H4.out.below HT.out HP.out HF.out).mono ?_
  rintro e5 w5 ⟨rfl, hb⟩
  rw [HSP.out]
  have H5 := Lib.hid (H4.out.step hb)
  clear hb k1 l1 HNP HSP
  have hsz := HF.out
  have HSH : Hid (∀ s ∈ P.exc, s.length ≤ 10000) := Lib.hid (fun s hs => by have := HF.out.names s (by unfold namesI; simp [hs]); omega)
  obtain ⟨id, rank, kind, name, value, ⟨oC, nC, dC, mC, ksC⟩, exc, ⟨oB, nB, dB, mB, ksB⟩, ⟨oD, nD, dD, mD, ksD⟩, ⟨oG, nG, dG, mG, ksG⟩⟩ := P
  have hr9 := HR.out
  obtain ⟨cc, A, cap, cb, cf, ca, hcs, hcap, ⟨KC, qC, rfl, hK1⟩, hex, ⟨KB, qB, rfl, hK2⟩, ⟨KD, qD, rfl, hK3⟩, ⟨KG, qG, rfl, hK4⟩⟩ := hr9
  simp only [tcX, List.cons_append, List.nil_append] at hcs
  subst hcs
  have HK1 := Lib.hid (And.intro hK1 (And.intro hex hcap))
  have HK2 := Lib.hid hK2
  have k1 : w5.blk w.heap.size = some (.cells #[vs id, .int .i64 rank, .int .i64 kind, vs name, .int .i64 value, .int .i64 oC, vs nC, .int .i64 dC, .int .i64 mC, .slice KC ksC.length qC, .slice A exc.length cap, .int .i64 oB, vs nB, .int .i64 mB, .slice KB ksB.length qB, .int .i64 oD, vs nD, .int .i64 mD, .slice KD ksD.length qD, .int .i64 oG, vs nG, .int .i64 mG, .slice KG ksG.length qG] 30 (0, 0)) := H5.out.blk
  have l1 := lt_of_heap' H5.out.blk
  have HK5 := Lib.hid k1
  clear hK1 hK2 hK3 hK4 hex ld1 k1 l1
  have hab : (e0 = 1 ∧ e1 = 1) ∨ (¬ e0 = 1 ∧ ¬ e1 = 1) := by
    by_cases h : e0 = 1
    · exact Or.inl ⟨h, HAB.out.1 h⟩
    · exact Or.inr ⟨h, fun h' => h (HAB.out.2 h')⟩
  go_upto_region 6 with fail
  go_cut [1, 2, 5, 36] from 0 to 200 (fun s1 s2 s5 s36 wc => s1 = .int .i64 n ∧ s2 = .pointer (some ⟨w.heap.size, 0, none⟩) ∧ s5 = .bool true ∧ s36 = .bool false ∧ wc = w5)
  case first =>
    rcases hab with ⟨rfl, rfl⟩ | ⟨h0, h1⟩
    · rw [show ((1 : Nat) : Int) = 1 from rfl]
      go_wp2_with fail
      go_meet
      case rel => exact ⟨rfl, rfl, rfl, rfl, rfl⟩
    · have h0b : (((e0 : Nat) : Int) == 1) = false := by simp; omega
      have h1b : (((e1 : Nat) : Int) == 1) = false := by simp; omega
      clear h0 h1
      go_wp2_with fail
      go_meet
      case rel => exact ⟨rfl, rfl, rfl, rfl, rfl⟩
  case rest =>
    obtain ⟨rfl, rfl, rfl, rfl, rfl⟩ := hcut
    clear hab
    have k1 := HK5.out
    have l1 := lt_of_heap' H5.out.blk
    obtain ⟨st1, ld1⟩ := lit_io (l := [vs id, .int .i64 rank, .int .i64 kind, vs name, .int .i64 value, .int .i64 oC, vs nC, .int .i64 dC, .int .i64 mC, .slice KC ksC.length qC, .slice A exc.length cap, .int .i64 oB, vs nB, .int .i64 mB, .slice KB ksB.length qB, .int .i64 oD, vs nD, .int .i64 mD, .slice KD ksD.length qD, .int .i64 oG, vs nG, .int .i64 mG, .slice KG ksG.length qG]) rfl rfl
    go_upto_region 10 with fail
    have q0 := heap_alloc_new wc (.cells #[vs id, .int .i64 rank, .int .i64 kind, vs name, .int .i64 value, .int .i64 oC, vs nC, .int .i64 dC, .int .i64 mC, .slice KC ksC.length qC, .slice A exc.length cap, .int .i64 oB, vs nB, .int .i64 mB, .slice KB ksB.length qB, .int .i64 oD, vs nD, .int .i64 mD, .slice KD ksD.length qD, .int .i64 oG, vs nG, .int .i64 mG, .slice KG ksG.length qG] 30)
    have c1 : (wc.alloc (.cells #[vs id, .int .i64 rank, .int .i64 kind, vs name, .int .i64 value, .int .i64 oC, vs nC, .int .i64 dC, .int .i64 mC, .slice KC ksC.length qC, .slice A exc.length cap, .int .i64 oB, vs nB, .int .i64 mB, .slice KB ksB.length qB, .int .i64 oD, vs nD, .int .i64 mD, .slice KD ksD.length qD, .int .i64 oG, vs nG, .int .i64 mG, .slice KG ksG.length qG] 30)).cell? ⟨wc.heap.size, 1, none⟩ = some (.int .i64 rank) := cell_of_blk q0 rfl
    have f1 := frozen_of_blk (o := 1) q0
    have HQ1 := Lib.hid (RSt.start (w := w) (wx := wc) (cs := [vs id, .int .i64 rank, .int .i64 kind, vs name, .int .i64 value, .int .i64 oC, vs nC, .int .i64 dC, .int .i64 mC, .slice KC ksC.length qC, .slice A exc.length cap, .int .i64 oB, vs nB, .int .i64 mB, .slice KB ksB.length qB, .int .i64 oD, vs nD, .int .i64 mD, .slice KD ksD.length qD, .int .i64 oG, vs nG, .int .i64 mG, .slice KG ksG.length qG]) [vs id, .int .i64 5, .int .i64 kind, vs name, .int .i64 value, .int .i64 oC, vs nC, .int .i64 dC, .int .i64 mC, .slice KC ksC.length qC, .slice A exc.length cap, .int .i64 oB, vs nB, .int .i64 mB, .slice KB ksB.length qB, .int .i64 oD, vs nD, .int .i64 mD, .slice KD ksD.length qD, .int .i64 oG, vs nG, .int .i64 mG, .slice KG ksG.length qG] H5.out.below HK5.out rfl)
    have ld2 := (lit_io (l := [vs id, .int .i64 5, .int .i64 kind, vs name, .int .i64 value, .int .i64 oC, vs nC, .int .i64 dC, .int .i64 mC, .slice KC ksC.length qC, .slice A exc.length cap, .int .i64 oB, vs nB, .int .i64 mB, .slice KB ksB.length qB, .int .i64 oD, vs nD, .int .i64 mD, .slice KD ksD.length qD, .int .i64 oG, vs nG, .int .i64 mG, .slice KG ksG.length qG]) rfl rfl).2
    have hb1 : RowBad w [vs id, .int .i64 5, .int .i64 kind, vs name, .int .i64 value, .int .i64 oC, vs nC, .int .i64 dC, .int .i64 mC, .slice KC ksC.length qC, .slice A exc.length cap, .int .i64 oB, vs nB, .int .i64 mB, .slice KB ksB.length qB, .int .i64 oD, vs nD, .int .i64 mD, .slice KD ksD.length qD, .int .i64 oG, vs nG, .int .i64 mG, .slice KG ksG.length qG] := ⟨{ (⟨id, rank, kind, name, value, .mk oC nC dC mC ksC, exc, .mk oB nB dB mB ksB, .mk oD nD dD mD ksD, .mk oG nG dG mG ksG⟩ : ProvI) with rank := 5 }, rdpx_rank HR.out 5, refuses_ref rfl, by have := hsz.cond; simp only at this ⊢; omega, by have := hsz.beg; simp only at this ⊢; omega, by have := hsz.fin; simp only at this ⊢; omega, by have := hsz.aga; simp only at this ⊢; omega, by have := hsz.exc; simp only at this ⊢; omega, HSH.out⟩
    have HB1 := Lib.hid hb1
    clear q0 hb1
    go_upto_region 12 with (at_builtin; refine wpList_append_pv rfl (.tmp 39) (.tmp 41) rfl (w.heap.size + 1) _ [] _ [vs id, .int .i64 5, .int .i64 kind, vs name, .int .i64 value, .int .i64 oC, vs nC, .int .i64 dC, .int .i64 mC, .slice KC ksC.length qC, .slice A exc.length cap, .int .i64 oB, vs nB, .int .i64 mB, .slice KB ksB.length qB, .int .i64 oD, vs nD, .int .i64 mD, .slice KD ksD.length qD, .int .i64 oG, vs nG, .int .i64 mG, .slice KG ksG.length qG] rfl rfl (HQ1.out.own.alloc _) rfl rfl (new_at (by simp)) (by simp) (by simp; omega) ?_; intro v1 w6 ho hg ha; have HS1 := Lib.hid ((HQ1.out.grow (belowA _ _)).app ho hg ha); clear ho hg ha c1 f1 ld2 k1 l1)
    obtain ⟨qb, hqb⟩ : ∃ q, wc.heap.size = q := ⟨_, rfl⟩
    rw [hqb] at HS1 ⊢
    clear hqb HQ1
    obtain ⟨L1, hL1⟩ : ∃ L, ([] ++ [[vs id, .int .i64 5, .int .i64 kind, vs name, .int .i64 value, .int .i64 oC, vs nC, .int .i64 dC, .int .i64 mC, .slice KC ksC.length qC, .slice A exc.length cap, .int .i64 oB, vs nB, .int .i64 mB, .slice KB ksB.length qB, .int .i64 oD, vs nD, .int .i64 mD, .slice KD ksD.length qD, .int .i64 oG, vs nG, .int .i64 mG, .slice KG ksG.length qG]] : List (List Value)) = L := ⟨_, rfl⟩
    have HL1 : Hid (L1.length ≤ 1 ∧ ∀ r ∈ L1, RowBad w r) := Lib.hid (by
      rw [← hL1]
      refine ⟨by have := Nat.zero_le 0; simp only [List.length_append, List.length_cons, List.length_nil]; omega, fun r hr => ?_⟩
      rcases List.mem_append.1 hr with hr | hr
      · exact absurd hr (by simp)
      · rw [List.mem_singleton.1 hr]; exact HB1.out)
    rw [hL1] at HS1
    clear hL1
    have k1 := HS1.out.pblk
    have k2 := HS1.out.qblk
    have l1 := HS1.out.plt
    have l2 := HS1.out.qlt
    go_upto_region 13 with fail
    have HQ2 := Lib.hid (HS1.out.row (D' := [vs id, .int .i64 rank, .int .i64 kind, vs name, .int .i64 value, .int .i64 oC, vs nC, .int .i64 dC, .int .i64 mC, .slice KC ksC.length qC, .slice A exc.length cap, .int .i64 oB, vs nB, .int .i64 mB, .slice KB ksB.length qB, .int .i64 oD, vs nD, .int .i64 mD, .slice KD ksD.length qD, .int .i64 oG, vs nG, .int .i64 mG, .slice KG ksG.length qG]) rfl)
    have c1 : (w6.setRow qb #[vs id, .int .i64 rank, .int .i64 kind, vs name, .int .i64 value, .int .i64 oC, vs nC, .int .i64 dC, .int .i64 mC, .slice KC ksC.length qC, .slice A exc.length cap, .int .i64 oB, vs nB, .int .i64 mB, .slice KB ksB.length qB, .int .i64 oD, vs nD, .int .i64 mD, .slice KD ksD.length qD, .int .i64 oG, vs nG, .int .i64 mG, .slice KG ksG.length qG]).cell? ⟨qb, 2, none⟩ = some (.int .i64 kind) := cell_of_blk HQ2.out.qblk rfl
    have f1 : (w6.setRow qb #[vs id, .int .i64 rank, .int .i64 kind, vs name, .int .i64 value, .int .i64 oC, vs nC, .int .i64 dC, .int .i64 mC, .slice KC ksC.length qC, .slice A exc.length cap, .int .i64 oB, vs nB, .int .i64 mB, .slice KB ksB.length qB, .int .i64 oD, vs nD, .int .i64 mD, .slice KD ksD.length qD, .int .i64 oG, vs nG, .int .i64 mG, .slice KG ksG.length qG]).frozen? ⟨qb, 2, none⟩ = false := frozen_of_blk HQ2.out.qblk
    clear k1 k2
    go_upto_region 14 with fail
    have HT2 := Lib.hid (HQ2.out.cell 2 (.int .i64 0))
    have k2 : ((w6.setRow qb #[vs id, .int .i64 rank, .int .i64 kind, vs name, .int .i64 value, .int .i64 oC, vs nC, .int .i64 dC, .int .i64 mC, .slice KC ksC.length qC, .slice A exc.length cap, .int .i64 oB, vs nB, .int .i64 mB, .slice KB ksB.length qB, .int .i64 oD, vs nD, .int .i64 mD, .slice KD ksD.length qD, .int .i64 oG, vs nG, .int .i64 mG, .slice KG ksG.length qG]).setCell ⟨qb, 2, none⟩ (.int .i64 0)).blk qb = some (.cells #[vs id, .int .i64 rank, .int .i64 0, vs name, .int .i64 value, .int .i64 oC, vs nC, .int .i64 dC, .int .i64 mC, .slice KC ksC.length qC, .slice A exc.length cap, .int .i64 oB, vs nB, .int .i64 mB, .slice KB ksB.length qB, .int .i64 oD, vs nD, .int .i64 mD, .slice KD ksD.length qD, .int .i64 oG, vs nG, .int .i64 mG, .slice KG ksG.length qG] 30 (0, 0)) := HT2.out.qblk
    have ld2 := (lit_io (l := [vs id, .int .i64 rank, .int .i64 0, vs name, .int .i64 value, .int .i64 oC, vs nC, .int .i64 dC, .int .i64 mC, .slice KC ksC.length qC, .slice A exc.length cap, .int .i64 oB, vs nB, .int .i64 mB, .slice KB ksB.length qB, .int .i64 oD, vs nD, .int .i64 mD, .slice KD ksD.length qD, .int .i64 oG, vs nG, .int .i64 mG, .slice KG ksG.length qG]) rfl rfl).2
    have HB2 : Hid (RowBad w [vs id, .int .i64 rank, .int .i64 0, vs name, .int .i64 value, .int .i64 oC, vs nC, .int .i64 dC, .int .i64 mC, .slice KC ksC.length qC, .slice A exc.length cap, .int .i64 oB, vs nB, .int .i64 mB, .slice KB ksB.length qB, .int .i64 oD, vs nD, .int .i64 mD, .slice KD ksD.length qD, .int .i64 oG, vs nG, .int .i64 mG, .slice KG ksG.length qG]) := Lib.hid ⟨{ (⟨id, rank, kind, name, value, .mk oC nC dC mC ksC, exc, .mk oB nB dB mB ksB, .mk oD nD dD mD ksD, .mk oG nG dG mG ksG⟩ : ProvI) with kind := 0 }, rdpx_kind HR.out 0, refuses_ref (by simp [refP]), by have := hsz.cond; simp only at this ⊢; omega, by have := hsz.beg; simp only at this ⊢; omega, by have := hsz.fin; simp only at this ⊢; omega, by have := hsz.aga; simp only at this ⊢; omega, by have := hsz.exc; simp only at this ⊢; omega, HSH.out⟩
    clear c1 f1
    go_upto_region 15 with (at_builtin; refine wpList_append_pv rfl (.tmp 45) (.tmp 47) rfl (w.heap.size + 1) _ L1 _ [vs id, .int .i64 rank, .int .i64 0, vs name, .int .i64 value, .int .i64 oC, vs nC, .int .i64 dC, .int .i64 mC, .slice KC ksC.length qC, .slice A exc.length cap, .int .i64 oB, vs nB, .int .i64 mB, .slice KB ksB.length qB, .int .i64 oD, vs nD, .int .i64 mD, .slice KD ksD.length qD, .int .i64 oG, vs nG, .int .i64 mG, .slice KG ksG.length qG] rfl rfl (HT2.out.own.alloc _) rfl rfl (new_at (by simp)) (by have := HL1.out.1; omega) (by simp; omega) ?_; intro v2 w7 ho hg ha; have HS2 := Lib.hid ((HT2.out.grow (belowA _ _)).app ho hg ha); clear ho hg ha k2 ld2 l1 l2)
    clear HQ2 HT2
    obtain ⟨L2, hL2⟩ : ∃ L, (L1 ++ [[vs id, .int .i64 rank, .int .i64 0, vs name, .int .i64 value, .int .i64 oC, vs nC, .int .i64 dC, .int .i64 mC, .slice KC ksC.length qC, .slice A exc.length cap, .int .i64 oB, vs nB, .int .i64 mB, .slice KB ksB.length qB, .int .i64 oD, vs nD, .int .i64 mD, .slice KD ksD.length qD, .int .i64 oG, vs nG, .int .i64 mG, .slice KG ksG.length qG]] : List (List Value)) = L := ⟨_, rfl⟩
    have HL2 : Hid (L2.length ≤ 2 ∧ ∀ r ∈ L2, RowBad w r) := Lib.hid (by
      rw [← hL2]
      refine ⟨by have := HL1.out.1; simp only [List.length_append, List.length_cons, List.length_nil]; omega, fun r hr => ?_⟩
      rcases List.mem_append.1 hr with hr | hr
      · exact HL1.out.2 r hr
      · rw [List.mem_singleton.1 hr]; exact HB2.out)
    rw [hL2] at HS2
    clear hL2
    go_cut [1, 2, 5, 10, 11, 54] from 0 to 200 (fun s1 s2 s5 s10 s11 s54 wd => s1 = .int .i64 n ∧ s2 = .pointer (some ⟨w.heap.size, 0, none⟩) ∧ s5 = .bool true ∧ v2 = s10 ∧ s11 = .pointer (some ⟨qb, 0, none⟩) ∧ s54 = .bool (decide (n < 0 ∨ 1000000 < n)) ∧ w7 = wd)
    case first =>
      have hcn : n < 0 ∨ (0 ≤ n ∧ 1000000 < n) ∨ (0 ≤ n ∧ n ≤ 1000000) := by omega
      rcases hcn with h | ⟨h, h'⟩ | ⟨h, h'⟩
      all_goals
        go_wp2_with fail
        go_meet
        case rel => exact ⟨rfl, rfl, rfl, rfl, rfl, congrArg Value.bool (by rw [Bool.eq_iff_iff]; first | (simp; done) | (simp; omega)), rfl⟩
    case rest =>
    obtain ⟨rfl, rfl, rfl, rfl, rfl, rfl, rfl⟩ := hcut
    go_upto_if 54 with fail
    go_cut [1, 2, 5, 10, 11] from 0 to 200 (fun s1 s2 s5 s10 s11 wd => s1 = .int .i64 n ∧ s2 = .pointer (some ⟨w.heap.size, 0, none⟩) ∧ s5 = .bool true ∧ s11 = .pointer (some ⟨qb, 0, none⟩) ∧ LsAt w wd qb [vs id, .int .i64 rank, .int .i64 kind, vs name, .int .i64 value, .int .i64 oC, vs nC, .int .i64 dC, .int .i64 mC, .slice KC ksC.length qC, .slice A exc.length cap, .int .i64 oB, vs nB, .int .i64 mB, .slice KB ksB.length qB, .int .i64 oD, vs nD, .int .i64 mD, .slice KD ksD.length qD, .int .i64 oG, vs nG, .int .i64 mG, .slice KG ksG.length qG] s10 3)
    case first =>
      by_cases hn : n < 0 ∨ 1000000 < n
      · have hd : decide (n < 0 ∨ 1000000 < n) = true := decide_eq_true hn
        have HNN := Lib.hid hn
        clear hn
        have k1 := HS2.out.pblk
        have k2 := HS2.out.qblk
        have l1 := HS2.out.plt
        have l2 := HS2.out.qlt
        go_upto_region 17 with fail
        have HQ3 := Lib.hid (HS2.out.row (D' := [vs id, .int .i64 rank, .int .i64 kind, vs name, .int .i64 value, .int .i64 oC, vs nC, .int .i64 dC, .int .i64 mC, .slice KC ksC.length qC, .slice A exc.length cap, .int .i64 oB, vs nB, .int .i64 mB, .slice KB ksB.length qB, .int .i64 oD, vs nD, .int .i64 mD, .slice KD ksD.length qD, .int .i64 oG, vs nG, .int .i64 mG, .slice KG ksG.length qG]) rfl)
        have c1 : (w7.setRow qb #[vs id, .int .i64 rank, .int .i64 kind, vs name, .int .i64 value, .int .i64 oC, vs nC, .int .i64 dC, .int .i64 mC, .slice KC ksC.length qC, .slice A exc.length cap, .int .i64 oB, vs nB, .int .i64 mB, .slice KB ksB.length qB, .int .i64 oD, vs nD, .int .i64 mD, .slice KD ksD.length qD, .int .i64 oG, vs nG, .int .i64 mG, .slice KG ksG.length qG]).cell? ⟨qb, 4, none⟩ = some (.int .i64 value) := cell_of_blk HQ3.out.qblk rfl
        have f1 : (w7.setRow qb #[vs id, .int .i64 rank, .int .i64 kind, vs name, .int .i64 value, .int .i64 oC, vs nC, .int .i64 dC, .int .i64 mC, .slice KC ksC.length qC, .slice A exc.length cap, .int .i64 oB, vs nB, .int .i64 mB, .slice KB ksB.length qB, .int .i64 oD, vs nD, .int .i64 mD, .slice KD ksD.length qD, .int .i64 oG, vs nG, .int .i64 mG, .slice KG ksG.length qG]).frozen? ⟨qb, 4, none⟩ = false := frozen_of_blk HQ3.out.qblk
        clear k1 k2
        go_upto_region 18 with fail
        have HT3 := Lib.hid (HQ3.out.cell 4 (.int .i64 n))
        have k2 : ((w7.setRow qb #[vs id, .int .i64 rank, .int .i64 kind, vs name, .int .i64 value, .int .i64 oC, vs nC, .int .i64 dC, .int .i64 mC, .slice KC ksC.length qC, .slice A exc.length cap, .int .i64 oB, vs nB, .int .i64 mB, .slice KB ksB.length qB, .int .i64 oD, vs nD, .int .i64 mD, .slice KD ksD.length qD, .int .i64 oG, vs nG, .int .i64 mG, .slice KG ksG.length qG]).setCell ⟨qb, 4, none⟩ (.int .i64 n)).blk qb = some (.cells #[vs id, .int .i64 rank, .int .i64 kind, vs name, .int .i64 n, .int .i64 oC, vs nC, .int .i64 dC, .int .i64 mC, .slice KC ksC.length qC, .slice A exc.length cap, .int .i64 oB, vs nB, .int .i64 mB, .slice KB ksB.length qB, .int .i64 oD, vs nD, .int .i64 mD, .slice KD ksD.length qD, .int .i64 oG, vs nG, .int .i64 mG, .slice KG ksG.length qG] 30 (0, 0)) := HT3.out.qblk
        have ld2 := (lit_io (l := [vs id, .int .i64 rank, .int .i64 kind, vs name, .int .i64 n, .int .i64 oC, vs nC, .int .i64 dC, .int .i64 mC, .slice KC ksC.length qC, .slice A exc.length cap, .int .i64 oB, vs nB, .int .i64 mB, .slice KB ksB.length qB, .int .i64 oD, vs nD, .int .i64 mD, .slice KD ksD.length qD, .int .i64 oG, vs nG, .int .i64 mG, .slice KG ksG.length qG]) rfl rfl).2
        have HB3 : Hid (RowBad w [vs id, .int .i64 rank, .int .i64 kind, vs name, .int .i64 n, .int .i64 oC, vs nC, .int .i64 dC, .int .i64 mC, .slice KC ksC.length qC, .slice A exc.length cap, .int .i64 oB, vs nB, .int .i64 mB, .slice KB ksB.length qB, .int .i64 oD, vs nD, .int .i64 mD, .slice KD ksD.length qD, .int .i64 oG, vs nG, .int .i64 mG, .slice KG ksG.length qG]) := Lib.hid ⟨{ (⟨id, rank, kind, name, value, .mk oC nC dC mC ksC, exc, .mk oB nB dB mB ksB, .mk oD nD dD mD ksD, .mk oG nG dG mG ksG⟩ : ProvI) with value := n }, rdpx_value HR.out n, refuses_ref (by rcases HNN.out with h | h <;> simp [refP, h]), by have := hsz.cond; simp only at this ⊢; omega, by have := hsz.beg; simp only at this ⊢; omega, by have := hsz.fin; simp only at this ⊢; omega, by have := hsz.aga; simp only at this ⊢; omega, by have := hsz.exc; simp only at this ⊢; omega, HSH.out⟩
        clear c1 f1
        go_wp2_with (at_builtin; refine wpList_append_pv rfl (.tmp 58) (.tmp 60) rfl (w.heap.size + 1) _ L2 _ [vs id, .int .i64 rank, .int .i64 kind, vs name, .int .i64 n, .int .i64 oC, vs nC, .int .i64 dC, .int .i64 mC, .slice KC ksC.length qC, .slice A exc.length cap, .int .i64 oB, vs nB, .int .i64 mB, .slice KB ksB.length qB, .int .i64 oD, vs nD, .int .i64 mD, .slice KD ksD.length qD, .int .i64 oG, vs nG, .int .i64 mG, .slice KG ksG.length qG] rfl rfl (HT3.out.own.alloc _) rfl rfl (new_at (by simp)) (by have := HL2.out.1; omega) (by simp; omega) ?_; intro v3 w8 ho hg ha; have HS3 := Lib.hid ((HT3.out.grow (belowA _ _)).app ho hg ha); clear ho hg ha k2 ld2 l1 l2)
        clear HQ3 HT3
        obtain ⟨L3, hL3⟩ : ∃ L, (L2 ++ [[vs id, .int .i64 rank, .int .i64 kind, vs name, .int .i64 n, .int .i64 oC, vs nC, .int .i64 dC, .int .i64 mC, .slice KC ksC.length qC, .slice A exc.length cap, .int .i64 oB, vs nB, .int .i64 mB, .slice KB ksB.length qB, .int .i64 oD, vs nD, .int .i64 mD, .slice KD ksD.length qD, .int .i64 oG, vs nG, .int .i64 mG, .slice KG ksG.length qG]] : List (List Value)) = L := ⟨_, rfl⟩
        have HL3 : Hid (L3.length ≤ 3 ∧ ∀ r ∈ L3, RowBad w r) := Lib.hid (by
          rw [← hL3]
          refine ⟨by have := HL2.out.1; simp only [List.length_append, List.length_cons, List.length_nil]; omega, fun r hr => ?_⟩
          rcases List.mem_append.1 hr with hr | hr
          · exact HL2.out.2 r hr
          · rw [List.mem_singleton.1 hr]; exact HB3.out)
        rw [hL3] at HS3
        clear hL3
        go_meet
        case rel => exact ⟨rfl, rfl, rfl, rfl, _, L3, HS3.out, HL3.out.1, HL3.out.2⟩
      · have hd : decide (n < 0 ∨ 1000000 < n) = false := decide_eq_false hn
        go_wp2_with fail
        go_meet
        case rel => exact ⟨rfl, rfl, rfl, rfl, _, L2, HS2.out, by have := HL2.out.1; omega, HL2.out.2⟩
    case rest =>
    obtain ⟨rfl, rfl, rfl, rfl, D3, L3, hS3, hl3, hb3⟩ := hcut
    have HS3 := Lib.hid hS3
    have HL3 : Hid (L3.length ≤ 3 ∧ ∀ r ∈ L3, RowBad w r) := Lib.hid ⟨hl3, hb3⟩
    clear hS3 hl3 hb3 HS2 HL2 HS1 HL1 HB1 HB2
    have hBS : BadSz ⟨id, rank, kind, name, value, .mk oC nC dC mC ksC, exc, .mk oB nB dB mB ksB, .mk oD nD dD mD ksD, .mk oG nG dG mG ksG⟩ := ⟨hsz.cond, hsz.beg, hsz.fin, hsz.aga, hsz.exc, HSH.out⟩
    refine (by assumption : ∀ (a : Act) (w : World), Code.wp Tryz.prog rtail _ a w → _) _ _ ?_
    refine refu_tail _ w _ id rank kind name value exc A cap oC dC mC oB dB mB oD dD mD oG dG mG nC nB nD nG ksC ksB ksD ksG KC KB KD KG qC qB qD qG n _ qb D3 L3 HR.out ⟨KC, qC, rfl, HK1.out.1⟩ HK1.out.2.1 HK1.out.2.2 hBS HS3.out HL3.out.1 HL3.out.2 _ _ _ _ _ _ _ _ _ _ _ _ _ _ _ _ _ _ _ _ _ _ _ _ _ _ _ _ _ _ _ _ _ _ _ _ _ _ _ _ _ _ _ _ _ _ _ _ _ _ _ _ _ _ _ _ _ _ _ _ _ _ _ _ _ _ _ _ _ _ _ _ _ _ _ _ _ _ _ _ _ _ _ _ _ _ _ _ _ _ _ _ _ _ _ _ _ _ _ _ _ _ _ _ _ _ _ _ _ _ _ _ _ _ _ _ _ _ _ _ _ _ _ _ _ _ _ ?_
    intro y6 y7 y8 y9 y10 y12 y13 y14 y15 y16 y17 y18 y19 y20 y21 y22 y23 y24 y25 y26 y27 y28 y29 y30 y31 y32 y33 y34 y35 y36 y37 y38 y39 y40 y41 y42 y43 y44 y45 y46 y47 y48 y49 y50 y51 y52 y53 y54 y55 y56 y57 y58 y59 y60 y61 y62 y63 y64 y65 y66 y67 y68 y69 y70 y71 y72 y73 y74 y75 y76 y77 y78 y79 y80 y81 y82 y83 y84 y85 y86 y87 y88 y89 y90 y91 y92 y93 y94 y95 y96 y97 y98 y99 y100 y101 y102 y103 y104 y105 y106 y107 y108 y109 y110 y111 y112 y113 y114 y115 y116 y117 y118 y119 y120 y121 y122 y123 y124 y125 y126 y127 y128 y129 y130 y131 wz hz
    dsimp only
    go_ret
    exact ⟨rfl, hz⟩
end Go.Proofs.YtbicmjmcdnkjhaaGreatDoor

