/- The reference's reader: names. The reference's formula and condition. -/
import Derived.Test.YtcekampdldkjlaaGreatDoorJBr
import Derived.Test.YtcekampdldkjlaaGreatDoorSPV
set_option linter.unusedVariables false
set_option linter.unusedSimpArgs false
namespace Go.Proofs.YtcekampdldkjlaaGreatDoor
open Go.RowKit
theorem namesL_end {ts : List Tok} {fin f : Nat} {l : List (List UInt8)} {s : Rs} (h : s.e ≠ 0 ∨ (l ≠ [] ∧ seesA ts s [41] = true)) : namesL ts fin (f + 1) l s = (l, s) := by unfold namesL; rw [if_pos h]
theorem namesL_next {ts : List Tok} {fin f : Nat} {l : List (List UInt8)} {s : Rs} (h : ¬ (s.e ≠ 0 ∨ (l ≠ [] ∧ seesA ts s [41] = true))) : namesL ts fin (f + 1) l s = namesL ts fin f (l ++ [(nameA ts fin s).1.text]) (fullA l (nameA ts fin s).1.pos (onceA l (nameA ts fin s))) := by rw [namesL]; rw [if_neg h]
theorem once_err {l : List (List UInt8)} {t : Tok × Rs} (h : t.2.e ≠ 0) : onceA l t = t.2 := by unfold onceA; rw [if_neg (fun x => h x.1)]
theorem once_yes {l : List (List UInt8)} {t : Tok × Rs} (h : t.2.e = 0) (hc : l.contains t.1.text = true) : onceA l t = t.2.flt 9 t.1.pos := by unfold onceA; rw [if_pos ⟨h, hc⟩]
theorem once_no {l : List (List UInt8)} {t : Tok × Rs} (hc : l.contains t.1.text = false) : onceA l t = t.2 := by unfold onceA; rw [if_neg (fun x => by rw [hc] at x; cases x.2)]
theorem full_err {l : List (List UInt8)} {a : Int} {s : Rs} (h : s.e ≠ 0) : fullA l a s = s := by unfold fullA; rw [if_neg (fun x => h x.1)]
theorem full_yes {l : List (List UInt8)} {a : Int} {s : Rs} (h : s.e = 0) (hl : l.length = 20) : fullA l a s = s.flt 2 a := by unfold fullA; rw [if_pos ⟨h, hl⟩]
theorem full_no {l : List (List UInt8)} {a : Int} {s : Rs} (hl : l.length ≠ 20) : fullA l a s = s := by unfold fullA; rw [if_neg (fun x => hl x.2)]
theorem full_21 {l : List (List UInt8)} {a : Int} {s : Rs} (hl : l.length = 20) : (fullA l a s).e ≠ 0 := by
  by_cases h : s.e = 0
  · rw [full_yes h hl]; exact flt_ne (by decide)
  · rw [full_err h]; exact h
theorem ix_nat {l : List (List UInt8)} {s : List UInt8} (h : l.contains s = true) : ∃ i, ixS l s = some i := by
  rw [ix_contains] at h
  exact Option.isSome_iff_exists.1 h
theorem ix_none {l : List (List UInt8)} {s : List UInt8} (h : l.contains s = false) : ixS l s = none := by
  rw [ix_contains] at h
  simpa using h
theorem RR.grown2 {w w' : World} {p fin base : Nat} {ts : List Tok} {s : Rs} {v : Value} (h : RR w p fin ts s) (hg : w.grownBy w' v.ownBlock) (ho : ∀ b, v.ownBlock = some b → base ≤ b) (hp : p < base) : RR w' p fin ts s := h.grown hg (fun k hk => by have := ho k hk; omega)
theorem Eff.grown2 {w w1 w' : World} {p : Nat} {v : Value} (h : Eff p w w1) (hg : w1.grownBy w' v.ownBlock) (ho : ∀ b, v.ownBlock = some b → w.heap.size ≤ b) : Eff p w w' :=
  ⟨hg.os.trans h.os, hg.tape.trans h.tape, hg.output.trans h.output, Nat.le_trans h.size hg.size, fun k hk hn => (hg.block k (Nat.lt_of_lt_of_le hk h.size) (fun e => by have := ho k e.symm; omega)).trans (h.block k hk hn)⟩
set_option maxRecDepth 20000 in
set_option maxHeartbeats 4000000 in
theorem rnames_any (p fin : Nat) (ts : List Tok) (s : Rs) (w : World) (hp : RR w p fin ts s) :
    Calls Tryz.prog 18 #[.pointer (some ⟨p, 0, none⟩)] w fun r w' => ∃ A cap, r = .returned (.slice A (namesA ts fin s).1.length cap) ∧ (namesA ts fin s).1.length ≤ cap ∧ RdEx w.heap.size A (namesA ts fin s).1 w' ∧ RR w' p fin ts (namesA ts fin s).2 ∧ Eff p w w' := by
  have HP := Lib.hid hp
  have hpz : p < w.heap.size := hp.lt
  clear hp
  go_enter Tryz.func18, Tryz.ntmps18
  go_wp2_with fail
  refine (rmust_any [40] p fin ts s _ HP.out).mono ?_
  rintro r w1 ⟨rfl, hr1, he1⟩
  have HR1 := Lib.hid hr1
  have HE1 := Lib.hid he1
  clear hr1 he1
  obtain ⟨LX, hLX⟩ : ∃ x, namesL ts fin 22 [] (mustA ts fin s [40]) = x := ⟨_, rfl⟩
  have HLX := Lib.hid hLX
  clear hLX
  go_wp2_with fail
  go_loopw [3] (fun v3 wr => ∃ (l : List (List UInt8)) (s' : Rs) (n : Nat), l.length = n ∧ n ≤ 21 ∧ (n = 21 → s'.e ≠ 0) ∧ OwnS wr w.heap.size v3 l ∧ RR wr p fin ts s' ∧ Eff p w wr ∧ namesL ts fin (22 - n) l s' = LX) (fun v3 _ => 22 - sliceLen v3)
  case atStart => exact ⟨[], _, 0, rfl, by omega, fun h => by omega, OwnS.nil, HR1.out, HE1.out, HLX.out⟩
  case round =>
    obtain ⟨l, s', n, hl, hn, h21, ho, hr, he, hlx⟩ := hrel
    have HL := Lib.hid hl
    have HO := Lib.hid ho
    have HR := Lib.hid hr
    have HE := Lib.hid he
    have H21 := Lib.hid h21
    obtain ⟨A9, c9, rfl, -⟩ := ho.form
    obtain ⟨f, hf⟩ : ∃ f, 22 - n = f + 1 := ⟨21 - n, by omega⟩
    rw [hf] at hlx
    have HLQ := Lib.hid hlx
    have HFX := Lib.hid hf
    obtain ⟨A, c, hh, -⟩ := hr.is
    have c3 := cell_of_blk (o := 3) hh rfl
    have hlt := lt_of_heap' hh
    clear hl ho hr he h21 hlx hf hh
    by_cases h0 : s'.e = 0
    case neg =>
      have h0' : ((s'.e : Int) == 0) = false := by simp; omega
      have h0x := h0
      clear h0
      have HQ2 : Hid (namesA ts fin s = (l, mustA ts fin s' [41])) := Lib.hid (by unfold namesA; rw [HLX.out, ← HLQ.out, namesL_end (.inl h0x)])
      clear h0x
      go_wp2_with fail
      have HRX := HR
      have HEX := HE
      have HOX := HO
      clear c3 hlt
      refine (rmust_any [41] p fin ts s' _ HRX.out).mono ?_
      rintro r w8 ⟨rfl, hr8, he8⟩
      have HR8 := Lib.hid hr8
      have HE8 := Lib.hid (HEX.out.trans he8)
      obtain ⟨A8, c8, hva, hlc, hrs, hab⟩ := (HOX.out.eff he8 hpz).form
      injection hva with hv1 _ hv2
      subst hv1 hv2
      have HRS := Lib.hid hrs
      have HAB := Lib.hid hab
      clear hr8 he8 hrs hab
      go_wp2_with fail
      go_ret
      exact ⟨A9, c9, by rw [HQ2.out]; rfl, by rw [HQ2.out]; exact hlc, by rw [HQ2.out]; exact ⟨HRS.out, HAB.out⟩, by rw [HQ2.out]; exact HR8.out, HE8.out⟩
    rw [h0] at c3
    have H0 := Lib.hid h0
    have HN20 : Hid (n + 1 ≤ 21) := Lib.hid (by
      by_cases h : n = 21
      · exact absurd h0 (H21.out h)
      · omega)
    clear h0
    by_cases hl0 : l = []
    · have HNX := Lib.hid (namesL_next (fin := fin) (f := f) (l := l) (s := s') (ts := ts) (fun h => h.elim (fun h => h H0.out) (fun h => h.1 hl0)))
      have hl0' : ((l.length : Int) == 0) = true := by rw [hl0]; rfl
      clear hl0
      have HR2 := HR
      have HE2 := HE
      have HO2 := HO
      obtain ⟨w2, hw2⟩ : ∃ x, x = wr := ⟨_, rfl⟩
      subst hw2
      go_wp2_with fail
      refine (rname_any p fin ts s' _ HR2.out).mono ?_
      rintro r w3 ⟨rfl, hr3, he3⟩
      have HR3 := Lib.hid hr3
      have HE3 := Lib.hid (HE2.out.trans he3)
      have HO3 := Lib.hid (HO2.out.eff he3 hpz)
      clear hr3 he3 c3 hlt
      obtain ⟨T, hT⟩ : ∃ T, nameA ts fin s' = T := ⟨_, rfl⟩
      rw [hT] at HR3 HNX ⊢
      clear hT
      obtain ⟨⟨tk, tx, tn, tp⟩, S1⟩ := T
      simp only [Tok.agg] at HR3 HNX ⊢
      go_upto_region 5 with fail
      have hal : Below w3.heap.size w3 (w3.alloc (.cells #[.int .i64 tk, vs tx, .int .i64 tn, .int .i64 tp] 55 (0, 0))) := (Below.refl _ _).alloc (Nat.le_refl _) _
      have HR4 := Lib.hid (HR3.out.below hal)
      have HE4 := Lib.hid (HE3.out.trans (Eff.of_below hal))
      have HO4 := Lib.hid (HO3.out.below hal)
      have HTB := Lib.hid (heap_alloc_new w3 (.cells #[.int .i64 tk, vs tx, .int .i64 tn, .int .i64 tp] 55 (0, 0)))
      have hbtp : p < w3.heap.size := HR3.out.lt
      have hown : ∀ b, (Value.slice A9 l.length c9).ownBlock = some b → b ≠ w3.heap.size := fun b hb => by have := (HO3.out.own b hb).2; omega
      have HOWN := Lib.hid hown
      generalize hbt : w3.heap.size = bt at *
      generalize w3.alloc (.cells #[.int .i64 tk, vs tx, .int .i64 tn, .int .i64 tp] 55 (0, 0)) = w4 at *
      clear hal hbt hown HR3 HE3 HO3
      obtain ⟨A8, c8, hva, hlc, hrs, -⟩ := HO4.out.form
      injection hva with hv1 _ hv2
      subst hv1 hv2
      have HRS := Lib.hid hrs
      obtain ⟨A', c', hh, -⟩ := HR4.out.is
      have c3 := cell_of_blk (o := 3) hh rfl
      have hlt := lt_of_heap' hh
      have d1 := cell_of_blk (o := 1) HTB.out rfl
      have d3 := cell_of_blk (o := 3) HTB.out rfl
      have dl := lt_of_heap' HTB.out
      clear hh hrs hlc
      by_cases h1 : S1.e = 0
      case neg =>
        have h1' : ((S1.e : Int) == 0) = false := by simp; omega
        have HO1 := Lib.hid (once_err (l := l) (t := (⟨tk, tx, tn, tp⟩, S1)) h1)
        have HF1 := Lib.hid (full_err (l := l) (a := tp) h1)
        simp only at HO1
        rw [HO1.out, HF1.out] at HNX
        clear h1
        go_upto_region 9 with fail
        clear c3 hlt d1 d3 dl
        have d1 := cell_of_blk (o := 1) HTB.out rfl
        have dl := lt_of_heap' HTB.out
        have hal : Below w4.heap.size w4 (w4.alloc (.cells #[vs tx] 9 (0, 0))) := (Below.refl _ _).alloc (Nat.le_refl _) _
        have HOA := Lib.hid (HO4.out.below hal)
        have HCA : Hid ((w4.alloc (.cells #[vs tx] 9 (0, 0))).cell? ⟨w4.heap.size, 0, none⟩ = some (vs tx)) := Lib.hid (cell_of_blk (heap_alloc_new w4 _) rfl)
        have HSZ : Hid (w.heap.size ≤ (w4.alloc (.cells #[vs tx] 9 (0, 0))).heap.size) := Lib.hid (Nat.le_trans HE4.out.size hal.size)
        have HRA := Lib.hid (HR4.out.below hal)
        have HEA := Lib.hid (HE4.out.trans (Eff.of_below hal))
        have HLN : Hid (l.length + 1 ≤ 1000000) := Lib.hid (by have := HL.out; omega)
        have HOB := Lib.hid (fun b hb => (HO4.out.own b hb).1)
        clear hal
        go_wp2_with (at_builtin; refine wpList_append_str rfl (.tmp 54) (.tmp 57) rfl w.heap.size (.slice A9 l.length c9) l w4.heap.size tx rfl rfl HOA.out HCA.out HLN.out HSZ.out ?_; intro v' w9 ho9 hg9; have HO9 := Lib.hid ho9; have HR9 := Lib.hid (HRA.out.grown2 hg9 HOB.out hpz); have HE9 := Lib.hid (HEA.out.grown2 hg9 HOB.out); clear ho9 hg9)
        exact ⟨⟨l ++ [tx], _, n + 1, by have := HL.out; simp; omega, HN20.out, fun h => by have hh := full_21 (l := l) (a := tp) (s := onceA l (⟨tk, tx, tn, tp⟩, S1)) (by have := HL.out; omega); simp only [HO1.out, HF1.out] at hh; exact hh, HO9.out, HR9.out, HE9.out, by rw [← HLQ.out, HNX.out]; rw [show 22 - (n + 1) = f by have := HFX.out; omega]⟩, by have := HO9.out.form; obtain ⟨_, _, hv, _⟩ := this; rw [hv]; have := HL.out; simp [sliceLen]; omega⟩
      rw [h1] at c3
      have H1 := Lib.hid h1
      clear h1
      cases hc : l.contains tx with
      | true =>
        obtain ⟨ii, hi⟩ := ix_nat hc
        have HI := Lib.hid hi
        have hi0 : (0 : Int) ≤ ii := by omega
        have HO1 := Lib.hid (once_yes (l := l) (t := (⟨tk, tx, tn, tp⟩, S1)) H1.out hc)
        have HF1 := Lib.hid (full_err (l := l) (a := tp) (flt_ne (s := S1) (a := tp) (e := 9) (by decide)))
        have h9 : (((S1.flt 9 tp).e : Int) == 0) = false := by have := flt_ne (s := S1) (a := tp) (e := 9) (by decide); simp; omega
        simp only at HO1
        rw [HO1.out, HF1.out] at HNX
        clear hi hc
        go_wp2_with fail
        refine (index_any l A9 c9 tx _ HRS.out (by have := HL.out; omega)).mono ?_
        rintro r w5 ⟨rfl, rfl⟩
        rw [HI.out]
        go_wp2_with fail
        refine (fault_any 9 tp p fin ts S1 _ HR4.out).mono ?_
        rintro r w5 ⟨rfl, hr5, he5⟩
        have HR5 := Lib.hid hr5
        have HE5 := Lib.hid (HE4.out.trans he5)
        have HO5 := Lib.hid (HO4.out.eff he5 hpz)
        have HTB5 := Lib.hid ((he5.block _ dl (by omega)).trans HTB.out)
        obtain ⟨A', c', hh, -⟩ := HR5.out.is
        clear hr5 he5 c3 hlt d1 d3 dl
        have c3 := cell_of_blk (o := 3) hh rfl
        have hlt := lt_of_heap' hh
        clear hh
        go_upto_region 9 with fail
        clear c3 hlt h9
        have d1 := cell_of_blk (o := 1) HTB5.out rfl
        have dl := lt_of_heap' HTB5.out
        have hal : Below w5.heap.size w5 (w5.alloc (.cells #[vs tx] 9 (0, 0))) := (Below.refl _ _).alloc (Nat.le_refl _) _
        have HOA := Lib.hid (HO5.out.below hal)
        have HCA : Hid ((w5.alloc (.cells #[vs tx] 9 (0, 0))).cell? ⟨w5.heap.size, 0, none⟩ = some (vs tx)) := Lib.hid (cell_of_blk (heap_alloc_new w5 _) rfl)
        have HSZ : Hid (w.heap.size ≤ (w5.alloc (.cells #[vs tx] 9 (0, 0))).heap.size) := Lib.hid (Nat.le_trans HE5.out.size hal.size)
        have HRA := Lib.hid (HR5.out.below hal)
        have HEA := Lib.hid (HE5.out.trans (Eff.of_below hal))
        have HLN : Hid (l.length + 1 ≤ 1000000) := Lib.hid (by have := HL.out; omega)
        have HOB := Lib.hid (fun b hb => (HO5.out.own b hb).1)
        clear hal
        go_wp2_with (at_builtin; refine wpList_append_str rfl (.tmp 54) (.tmp 57) rfl w.heap.size (.slice A9 l.length c9) l w5.heap.size tx rfl rfl HOA.out HCA.out HLN.out HSZ.out ?_; intro v' w9 ho9 hg9; have HO9 := Lib.hid ho9; have HR9 := Lib.hid (HRA.out.grown2 hg9 HOB.out hpz); have HE9 := Lib.hid (HEA.out.grown2 hg9 HOB.out); clear ho9 hg9)
        exact ⟨⟨l ++ [tx], _, n + 1, by have := HL.out; simp; omega, HN20.out, fun h => by have hh := full_21 (l := l) (a := tp) (s := onceA l (⟨tk, tx, tn, tp⟩, S1)) (by have := HL.out; omega); simp only [HO1.out, HF1.out] at hh; exact hh, HO9.out, HR9.out, HE9.out, by rw [← HLQ.out, HNX.out]; rw [show 22 - (n + 1) = f by have := HFX.out; omega]⟩, by have := HO9.out.form; obtain ⟨_, _, hv, _⟩ := this; rw [hv]; have := HL.out; simp [sliceLen]; omega⟩
      | false =>
        have HI := Lib.hid (ix_none hc)
        have HO1 := Lib.hid (once_no (l := l) (t := (⟨tk, tx, tn, tp⟩, S1)) hc)
        simp only at HO1
        rw [HO1.out] at HNX
        clear hc
        by_cases h20 : l.length = 20
        · have h20' : ((l.length : Int) == 20) = true := by rw [h20]; rfl
          have HF1 := Lib.hid (full_yes (a := tp) H1.out h20)
          rw [HF1.out] at HNX
          clear h20
          go_wp2_with fail
          refine (index_any l A9 c9 tx _ HRS.out (by have := HL.out; omega)).mono ?_
          rintro r w5 ⟨rfl, rfl⟩
          rw [HI.out]
          go_wp2_with fail
          refine (fault_any 2 tp p fin ts S1 _ HR4.out).mono ?_
          rintro r w5 ⟨rfl, hr5, he5⟩
          have HR5 := Lib.hid hr5
          have HE5 := Lib.hid (HE4.out.trans he5)
          have HO5 := Lib.hid (HO4.out.eff he5 hpz)
          have HTB5 := Lib.hid ((he5.block _ dl (by omega)).trans HTB.out)
          clear hr5 he5 c3 hlt d1 d3 dl
          go_upto_region 9 with fail
          have d1 := cell_of_blk (o := 1) HTB5.out rfl
          have dl := lt_of_heap' HTB5.out
          have hal : Below w5.heap.size w5 (w5.alloc (.cells #[vs tx] 9 (0, 0))) := (Below.refl _ _).alloc (Nat.le_refl _) _
          have HOA := Lib.hid (HO5.out.below hal)
          have HCA : Hid ((w5.alloc (.cells #[vs tx] 9 (0, 0))).cell? ⟨w5.heap.size, 0, none⟩ = some (vs tx)) := Lib.hid (cell_of_blk (heap_alloc_new w5 _) rfl)
          have HSZ : Hid (w.heap.size ≤ (w5.alloc (.cells #[vs tx] 9 (0, 0))).heap.size) := Lib.hid (Nat.le_trans HE5.out.size hal.size)
          have HRA := Lib.hid (HR5.out.below hal)
          have HEA := Lib.hid (HE5.out.trans (Eff.of_below hal))
          have HLN : Hid (l.length + 1 ≤ 1000000) := Lib.hid (by have := HL.out; omega)
          have HOB := Lib.hid (fun b hb => (HO5.out.own b hb).1)
          clear hal
          go_wp2_with (at_builtin; refine wpList_append_str rfl (.tmp 54) (.tmp 57) rfl w.heap.size (.slice A9 l.length c9) l w5.heap.size tx rfl rfl HOA.out HCA.out HLN.out HSZ.out ?_; intro v' w9 ho9 hg9; have HO9 := Lib.hid ho9; have HR9 := Lib.hid (HRA.out.grown2 hg9 HOB.out hpz); have HE9 := Lib.hid (HEA.out.grown2 hg9 HOB.out); clear ho9 hg9)
          exact ⟨⟨l ++ [tx], _, n + 1, by have := HL.out; simp; omega, HN20.out, fun h => by have hh := full_21 (l := l) (a := tp) (s := onceA l (⟨tk, tx, tn, tp⟩, S1)) (by have := HL.out; omega); simp only [HO1.out, HF1.out] at hh; exact hh, HO9.out, HR9.out, HE9.out, by rw [← HLQ.out, HNX.out]; rw [show 22 - (n + 1) = f by have := HFX.out; omega]⟩, by have := HO9.out.form; obtain ⟨_, _, hv, _⟩ := this; rw [hv]; have := HL.out; simp [sliceLen]; omega⟩
        · have h20' : ((l.length : Int) == 20) = false := by simp; omega
          have HF1 := Lib.hid (full_no (a := tp) (s := S1) h20)
          rw [HF1.out] at HNX
          clear h20
          go_wp2_with fail
          refine (index_any l A9 c9 tx _ HRS.out (by have := HL.out; omega)).mono ?_
          rintro r w5 ⟨rfl, rfl⟩
          rw [HI.out]
          go_upto_region 9 with fail
          clear c3 hlt d1 d3 dl
          have d1 := cell_of_blk (o := 1) HTB.out rfl
          have dl := lt_of_heap' HTB.out
          have hal : Below w4.heap.size w4 (w4.alloc (.cells #[vs tx] 9 (0, 0))) := (Below.refl _ _).alloc (Nat.le_refl _) _
          have HOA := Lib.hid (HO4.out.below hal)
          have HCA : Hid ((w4.alloc (.cells #[vs tx] 9 (0, 0))).cell? ⟨w4.heap.size, 0, none⟩ = some (vs tx)) := Lib.hid (cell_of_blk (heap_alloc_new w4 _) rfl)
          have HSZ : Hid (w.heap.size ≤ (w4.alloc (.cells #[vs tx] 9 (0, 0))).heap.size) := Lib.hid (Nat.le_trans HE4.out.size hal.size)
          have HRA := Lib.hid (HR4.out.below hal)
          have HEA := Lib.hid (HE4.out.trans (Eff.of_below hal))
          have HLN : Hid (l.length + 1 ≤ 1000000) := Lib.hid (by have := HL.out; omega)
          have HOB := Lib.hid (fun b hb => (HO4.out.own b hb).1)
          clear hal
          go_wp2_with (at_builtin; refine wpList_append_str rfl (.tmp 54) (.tmp 57) rfl w.heap.size (.slice A9 l.length c9) l w4.heap.size tx rfl rfl HOA.out HCA.out HLN.out HSZ.out ?_; intro v' w9 ho9 hg9; have HO9 := Lib.hid ho9; have HR9 := Lib.hid (HRA.out.grown2 hg9 HOB.out hpz); have HE9 := Lib.hid (HEA.out.grown2 hg9 HOB.out); clear ho9 hg9)
          exact ⟨⟨l ++ [tx], _, n + 1, by have := HL.out; simp; omega, HN20.out, fun h => by have hh := full_21 (l := l) (a := tp) (s := onceA l (⟨tk, tx, tn, tp⟩, S1)) (by have := HL.out; omega); simp only [HO1.out, HF1.out] at hh; exact hh, HO9.out, HR9.out, HE9.out, by rw [← HLQ.out, HNX.out]; rw [show 22 - (n + 1) = f by have := HFX.out; omega]⟩, by have := HO9.out.form; obtain ⟨_, _, hv, _⟩ := this; rw [hv]; have := HL.out; simp [sliceLen]; omega⟩
    · have hl0' : ((l.length : Int) == 0) = false := by
        have : l.length ≠ 0 := fun h => hl0 (List.length_eq_zero_iff.1 h)
        simp; omega
      cases hs : seesA ts s' [41] with
      | true =>
        have HS := Lib.hid hs
        have h0x : l ≠ [] ∧ seesA ts s' [41] = true := ⟨hl0, hs⟩
        clear hl0 hs
        have HQ2 : Hid (namesA ts fin s = (l, mustA ts fin s' [41])) := Lib.hid (by unfold namesA; rw [HLX.out, ← HLQ.out, namesL_end (.inr h0x)])
        clear h0x
        go_wp2_with fail
        refine (rsees_any [41] p fin ts s' _ HR.out).mono ?_
        rintro r w2 ⟨rfl, hb2⟩
        rw [HS.out]
        have HRX := Lib.hid (HR.out.below hb2)
        have HEX := Lib.hid (HE.out.trans (Eff.of_below hb2))
        have HOX := Lib.hid (HO.out.below hb2)
        clear hb2 c3 hlt
        go_wp2_with fail
        refine (rmust_any [41] p fin ts s' _ HRX.out).mono ?_
        rintro r w8 ⟨rfl, hr8, he8⟩
        have HR8 := Lib.hid hr8
        have HE8 := Lib.hid (HEX.out.trans he8)
        obtain ⟨A8, c8, hva, hlc, hrs, hab⟩ := (HOX.out.eff he8 hpz).form
        injection hva with hv1 _ hv2
        subst hv1 hv2
        have HRS := Lib.hid hrs
        have HAB := Lib.hid hab
        clear hr8 he8 hrs hab
        go_wp2_with fail
        go_ret
        exact ⟨A9, c9, by rw [HQ2.out]; rfl, by rw [HQ2.out]; exact hlc, by rw [HQ2.out]; exact ⟨HRS.out, HAB.out⟩, by rw [HQ2.out]; exact HR8.out, HE8.out⟩
      | false =>
        have HS := Lib.hid hs
        have HNX := Lib.hid (namesL_next (fin := fin) (f := f) (l := l) (s := s') (ts := ts) (fun h => h.elim (fun h => h H0.out) (fun h => by rw [hs] at h; cases h.2)))
        clear hl0 hs
        go_wp2_with fail
        refine (rsees_any [41] p fin ts s' _ HR.out).mono ?_
        rintro r w2 ⟨rfl, hb2⟩
        rw [HS.out]
        have HR2 := Lib.hid (HR.out.below hb2)
        have HE2 := Lib.hid (HE.out.trans (Eff.of_below hb2))
        have HO2 := Lib.hid (HO.out.below hb2)
        clear hb2 c3 hlt
        go_wp2_with fail
        refine (rname_any p fin ts s' _ HR2.out).mono ?_
        rintro r w3 ⟨rfl, hr3, he3⟩
        have HR3 := Lib.hid hr3
        have HE3 := Lib.hid (HE2.out.trans he3)
        have HO3 := Lib.hid (HO2.out.eff he3 hpz)
        clear hr3 he3
        obtain ⟨T, hT⟩ : ∃ T, nameA ts fin s' = T := ⟨_, rfl⟩
        rw [hT] at HR3 HNX ⊢
        clear hT
        obtain ⟨⟨tk, tx, tn, tp⟩, S1⟩ := T
        simp only [Tok.agg] at HR3 HNX ⊢
        go_upto_region 5 with fail
        have hal : Below w3.heap.size w3 (w3.alloc (.cells #[.int .i64 tk, vs tx, .int .i64 tn, .int .i64 tp] 55 (0, 0))) := (Below.refl _ _).alloc (Nat.le_refl _) _
        have HR4 := Lib.hid (HR3.out.below hal)
        have HE4 := Lib.hid (HE3.out.trans (Eff.of_below hal))
        have HO4 := Lib.hid (HO3.out.below hal)
        have HTB := Lib.hid (heap_alloc_new w3 (.cells #[.int .i64 tk, vs tx, .int .i64 tn, .int .i64 tp] 55 (0, 0)))
        have hbtp : p < w3.heap.size := HR3.out.lt
        have hown : ∀ b, (Value.slice A9 l.length c9).ownBlock = some b → b ≠ w3.heap.size := fun b hb => by have := (HO3.out.own b hb).2; omega
        have HOWN := Lib.hid hown
        generalize hbt : w3.heap.size = bt at *
        generalize w3.alloc (.cells #[.int .i64 tk, vs tx, .int .i64 tn, .int .i64 tp] 55 (0, 0)) = w4 at *
        clear hal hbt hown HR3 HE3 HO3
        obtain ⟨A8, c8, hva, hlc, hrs, -⟩ := HO4.out.form
        injection hva with hv1 _ hv2
        subst hv1 hv2
        have HRS := Lib.hid hrs
        obtain ⟨A', c', hh, -⟩ := HR4.out.is
        have c3 := cell_of_blk (o := 3) hh rfl
        have hlt := lt_of_heap' hh
        have d1 := cell_of_blk (o := 1) HTB.out rfl
        have d3 := cell_of_blk (o := 3) HTB.out rfl
        have dl := lt_of_heap' HTB.out
        clear hh hrs hlc
        by_cases h1 : S1.e = 0
        case neg =>
          have h1' : ((S1.e : Int) == 0) = false := by simp; omega
          have HO1 := Lib.hid (once_err (l := l) (t := (⟨tk, tx, tn, tp⟩, S1)) h1)
          have HF1 := Lib.hid (full_err (l := l) (a := tp) h1)
          simp only at HO1
          rw [HO1.out, HF1.out] at HNX
          clear h1
          go_upto_region 9 with fail
          clear c3 hlt d1 d3 dl
          have d1 := cell_of_blk (o := 1) HTB.out rfl
          have dl := lt_of_heap' HTB.out
          have hal : Below w4.heap.size w4 (w4.alloc (.cells #[vs tx] 9 (0, 0))) := (Below.refl _ _).alloc (Nat.le_refl _) _
          have HOA := Lib.hid (HO4.out.below hal)
          have HCA : Hid ((w4.alloc (.cells #[vs tx] 9 (0, 0))).cell? ⟨w4.heap.size, 0, none⟩ = some (vs tx)) := Lib.hid (cell_of_blk (heap_alloc_new w4 _) rfl)
          have HSZ : Hid (w.heap.size ≤ (w4.alloc (.cells #[vs tx] 9 (0, 0))).heap.size) := Lib.hid (Nat.le_trans HE4.out.size hal.size)
          have HRA := Lib.hid (HR4.out.below hal)
          have HEA := Lib.hid (HE4.out.trans (Eff.of_below hal))
          have HLN : Hid (l.length + 1 ≤ 1000000) := Lib.hid (by have := HL.out; omega)
          have HOB := Lib.hid (fun b hb => (HO4.out.own b hb).1)
          clear hal
          go_wp2_with (at_builtin; refine wpList_append_str rfl (.tmp 54) (.tmp 57) rfl w.heap.size (.slice A9 l.length c9) l w4.heap.size tx rfl rfl HOA.out HCA.out HLN.out HSZ.out ?_; intro v' w9 ho9 hg9; have HO9 := Lib.hid ho9; have HR9 := Lib.hid (HRA.out.grown2 hg9 HOB.out hpz); have HE9 := Lib.hid (HEA.out.grown2 hg9 HOB.out); clear ho9 hg9)
          exact ⟨⟨l ++ [tx], _, n + 1, by have := HL.out; simp; omega, HN20.out, fun h => by have hh := full_21 (l := l) (a := tp) (s := onceA l (⟨tk, tx, tn, tp⟩, S1)) (by have := HL.out; omega); simp only [HO1.out, HF1.out] at hh; exact hh, HO9.out, HR9.out, HE9.out, by rw [← HLQ.out, HNX.out]; rw [show 22 - (n + 1) = f by have := HFX.out; omega]⟩, by have := HO9.out.form; obtain ⟨_, _, hv, _⟩ := this; rw [hv]; have := HL.out; simp [sliceLen]; omega⟩
        rw [h1] at c3
        have H1 := Lib.hid h1
        clear h1
        cases hc : l.contains tx with
        | true =>
          obtain ⟨ii, hi⟩ := ix_nat hc
          have HI := Lib.hid hi
          have hi0 : (0 : Int) ≤ ii := by omega
          have HO1 := Lib.hid (once_yes (l := l) (t := (⟨tk, tx, tn, tp⟩, S1)) H1.out hc)
          have HF1 := Lib.hid (full_err (l := l) (a := tp) (flt_ne (s := S1) (a := tp) (e := 9) (by decide)))
          have h9 : (((S1.flt 9 tp).e : Int) == 0) = false := by have := flt_ne (s := S1) (a := tp) (e := 9) (by decide); simp; omega
          simp only at HO1
          rw [HO1.out, HF1.out] at HNX
          clear hi hc
          go_wp2_with fail
          refine (index_any l A9 c9 tx _ HRS.out (by have := HL.out; omega)).mono ?_
          rintro r w5 ⟨rfl, rfl⟩
          rw [HI.out]
          go_wp2_with fail
          refine (fault_any 9 tp p fin ts S1 _ HR4.out).mono ?_
          rintro r w5 ⟨rfl, hr5, he5⟩
          have HR5 := Lib.hid hr5
          have HE5 := Lib.hid (HE4.out.trans he5)
          have HO5 := Lib.hid (HO4.out.eff he5 hpz)
          have HTB5 := Lib.hid ((he5.block _ dl (by omega)).trans HTB.out)
          obtain ⟨A', c', hh, -⟩ := HR5.out.is
          clear hr5 he5 c3 hlt d1 d3 dl
          have c3 := cell_of_blk (o := 3) hh rfl
          have hlt := lt_of_heap' hh
          clear hh
          go_upto_region 9 with fail
          clear c3 hlt h9
          have d1 := cell_of_blk (o := 1) HTB5.out rfl
          have dl := lt_of_heap' HTB5.out
          have hal : Below w5.heap.size w5 (w5.alloc (.cells #[vs tx] 9 (0, 0))) := (Below.refl _ _).alloc (Nat.le_refl _) _
          have HOA := Lib.hid (HO5.out.below hal)
          have HCA : Hid ((w5.alloc (.cells #[vs tx] 9 (0, 0))).cell? ⟨w5.heap.size, 0, none⟩ = some (vs tx)) := Lib.hid (cell_of_blk (heap_alloc_new w5 _) rfl)
          have HSZ : Hid (w.heap.size ≤ (w5.alloc (.cells #[vs tx] 9 (0, 0))).heap.size) := Lib.hid (Nat.le_trans HE5.out.size hal.size)
          have HRA := Lib.hid (HR5.out.below hal)
          have HEA := Lib.hid (HE5.out.trans (Eff.of_below hal))
          have HLN : Hid (l.length + 1 ≤ 1000000) := Lib.hid (by have := HL.out; omega)
          have HOB := Lib.hid (fun b hb => (HO5.out.own b hb).1)
          clear hal
          go_wp2_with (at_builtin; refine wpList_append_str rfl (.tmp 54) (.tmp 57) rfl w.heap.size (.slice A9 l.length c9) l w5.heap.size tx rfl rfl HOA.out HCA.out HLN.out HSZ.out ?_; intro v' w9 ho9 hg9; have HO9 := Lib.hid ho9; have HR9 := Lib.hid (HRA.out.grown2 hg9 HOB.out hpz); have HE9 := Lib.hid (HEA.out.grown2 hg9 HOB.out); clear ho9 hg9)
          exact ⟨⟨l ++ [tx], _, n + 1, by have := HL.out; simp; omega, HN20.out, fun h => by have hh := full_21 (l := l) (a := tp) (s := onceA l (⟨tk, tx, tn, tp⟩, S1)) (by have := HL.out; omega); simp only [HO1.out, HF1.out] at hh; exact hh, HO9.out, HR9.out, HE9.out, by rw [← HLQ.out, HNX.out]; rw [show 22 - (n + 1) = f by have := HFX.out; omega]⟩, by have := HO9.out.form; obtain ⟨_, _, hv, _⟩ := this; rw [hv]; have := HL.out; simp [sliceLen]; omega⟩
        | false =>
          have HI := Lib.hid (ix_none hc)
          have HO1 := Lib.hid (once_no (l := l) (t := (⟨tk, tx, tn, tp⟩, S1)) hc)
          simp only at HO1
          rw [HO1.out] at HNX
          clear hc
          by_cases h20 : l.length = 20
          · have h20' : ((l.length : Int) == 20) = true := by rw [h20]; rfl
            have HF1 := Lib.hid (full_yes (a := tp) H1.out h20)
            rw [HF1.out] at HNX
            clear h20
            go_wp2_with fail
            refine (index_any l A9 c9 tx _ HRS.out (by have := HL.out; omega)).mono ?_
            rintro r w5 ⟨rfl, rfl⟩
            rw [HI.out]
            go_wp2_with fail
            refine (fault_any 2 tp p fin ts S1 _ HR4.out).mono ?_
            rintro r w5 ⟨rfl, hr5, he5⟩
            have HR5 := Lib.hid hr5
            have HE5 := Lib.hid (HE4.out.trans he5)
            have HO5 := Lib.hid (HO4.out.eff he5 hpz)
            have HTB5 := Lib.hid ((he5.block _ dl (by omega)).trans HTB.out)
            clear hr5 he5 c3 hlt d1 d3 dl
            go_upto_region 9 with fail
            have d1 := cell_of_blk (o := 1) HTB5.out rfl
            have dl := lt_of_heap' HTB5.out
            have hal : Below w5.heap.size w5 (w5.alloc (.cells #[vs tx] 9 (0, 0))) := (Below.refl _ _).alloc (Nat.le_refl _) _
            have HOA := Lib.hid (HO5.out.below hal)
            have HCA : Hid ((w5.alloc (.cells #[vs tx] 9 (0, 0))).cell? ⟨w5.heap.size, 0, none⟩ = some (vs tx)) := Lib.hid (cell_of_blk (heap_alloc_new w5 _) rfl)
            have HSZ : Hid (w.heap.size ≤ (w5.alloc (.cells #[vs tx] 9 (0, 0))).heap.size) := Lib.hid (Nat.le_trans HE5.out.size hal.size)
            have HRA := Lib.hid (HR5.out.below hal)
            have HEA := Lib.hid (HE5.out.trans (Eff.of_below hal))
            have HLN : Hid (l.length + 1 ≤ 1000000) := Lib.hid (by have := HL.out; omega)
            have HOB := Lib.hid (fun b hb => (HO5.out.own b hb).1)
            clear hal
            go_wp2_with (at_builtin; refine wpList_append_str rfl (.tmp 54) (.tmp 57) rfl w.heap.size (.slice A9 l.length c9) l w5.heap.size tx rfl rfl HOA.out HCA.out HLN.out HSZ.out ?_; intro v' w9 ho9 hg9; have HO9 := Lib.hid ho9; have HR9 := Lib.hid (HRA.out.grown2 hg9 HOB.out hpz); have HE9 := Lib.hid (HEA.out.grown2 hg9 HOB.out); clear ho9 hg9)
            exact ⟨⟨l ++ [tx], _, n + 1, by have := HL.out; simp; omega, HN20.out, fun h => by have hh := full_21 (l := l) (a := tp) (s := onceA l (⟨tk, tx, tn, tp⟩, S1)) (by have := HL.out; omega); simp only [HO1.out, HF1.out] at hh; exact hh, HO9.out, HR9.out, HE9.out, by rw [← HLQ.out, HNX.out]; rw [show 22 - (n + 1) = f by have := HFX.out; omega]⟩, by have := HO9.out.form; obtain ⟨_, _, hv, _⟩ := this; rw [hv]; have := HL.out; simp [sliceLen]; omega⟩
          · have h20' : ((l.length : Int) == 20) = false := by simp; omega
            have HF1 := Lib.hid (full_no (a := tp) (s := S1) h20)
            rw [HF1.out] at HNX
            clear h20
            go_wp2_with fail
            refine (index_any l A9 c9 tx _ HRS.out (by have := HL.out; omega)).mono ?_
            rintro r w5 ⟨rfl, rfl⟩
            rw [HI.out]
            go_upto_region 9 with fail
            clear c3 hlt d1 d3 dl
            have d1 := cell_of_blk (o := 1) HTB.out rfl
            have dl := lt_of_heap' HTB.out
            have hal : Below w4.heap.size w4 (w4.alloc (.cells #[vs tx] 9 (0, 0))) := (Below.refl _ _).alloc (Nat.le_refl _) _
            have HOA := Lib.hid (HO4.out.below hal)
            have HCA : Hid ((w4.alloc (.cells #[vs tx] 9 (0, 0))).cell? ⟨w4.heap.size, 0, none⟩ = some (vs tx)) := Lib.hid (cell_of_blk (heap_alloc_new w4 _) rfl)
            have HSZ : Hid (w.heap.size ≤ (w4.alloc (.cells #[vs tx] 9 (0, 0))).heap.size) := Lib.hid (Nat.le_trans HE4.out.size hal.size)
            have HRA := Lib.hid (HR4.out.below hal)
            have HEA := Lib.hid (HE4.out.trans (Eff.of_below hal))
            have HLN : Hid (l.length + 1 ≤ 1000000) := Lib.hid (by have := HL.out; omega)
            have HOB := Lib.hid (fun b hb => (HO4.out.own b hb).1)
            clear hal
            go_wp2_with (at_builtin; refine wpList_append_str rfl (.tmp 54) (.tmp 57) rfl w.heap.size (.slice A9 l.length c9) l w4.heap.size tx rfl rfl HOA.out HCA.out HLN.out HSZ.out ?_; intro v' w9 ho9 hg9; have HO9 := Lib.hid ho9; have HR9 := Lib.hid (HRA.out.grown2 hg9 HOB.out hpz); have HE9 := Lib.hid (HEA.out.grown2 hg9 HOB.out); clear ho9 hg9)
            exact ⟨⟨l ++ [tx], _, n + 1, by have := HL.out; simp; omega, HN20.out, fun h => by have hh := full_21 (l := l) (a := tp) (s := onceA l (⟨tk, tx, tn, tp⟩, S1)) (by have := HL.out; omega); simp only [HO1.out, HF1.out] at hh; exact hh, HO9.out, HR9.out, HE9.out, by rw [← HLQ.out, HNX.out]; rw [show 22 - (n + 1) = f by have := HFX.out; omega]⟩, by have := HO9.out.form; obtain ⟨_, _, hv, _⟩ := this; rw [hv]; have := HL.out; simp [sliceLen]; omega⟩
end Go.Proofs.YtcekampdldkjlaaGreatDoor
namespace Go.Proofs.YtcekampdldkjlaaGreatDoor
open Go.RowKit
theorem below_undrew {B : Nat} {w w' : World} (h : Below B w.drew w') : Below B w w' := ⟨h.os, h.tape, h.output, h.size, h.block⟩
theorem ukid {fm : Bool} {wr w2 : World} {z j cB : Nat} {B : Option Addr} {l : List Tree} {cs : List Value} {t : Tree} {o : Obj} (h : RdTree fm (fun b => wr.heap.size ≤ b) w2 cs t) (hb : Below wr.heap.size wr w2) (ho : OwnT fm wr z (.slice B j cB) l) (hz : z ≤ wr.heap.size) : RdTree fm (fun b => z ≤ b ∧ (Value.slice B j cB).ownBlock ≠ some b) (w2.alloc o) cs t := by
  refine h.keep (by simp) (fun b hb2 hlt => ⟨⟨by omega, fun e => ?_⟩, Below.heap_alloc _ _ _ hlt⟩)
  obtain ⟨css, h1, h2, h3⟩ := ho.is
  rcases h3.2 with ⟨hv, -⟩ | ⟨g, cap, cur, hv, r2, r3, -⟩
  · rw [hv] at e; simp [Value.ownBlock] at e
  · rw [hv] at e
    simp [Value.ownBlock] at e
    subst e
    have := lt_of_heap' r3
    omega
theorem ownT_own {fm : Bool} {w : World} {z : Nat} {v : Value} {l : List Tree} (ho : OwnT fm w z v l) : ∀ b, v.ownBlock = some b → z ≤ b ∧ b < w.heap.size := by
  intro b e
  obtain ⟨css, h1, h2, h3⟩ := ho.is
  rcases h3.2 with ⟨hv, -⟩ | ⟨g, cap, cur, hv, r2, r3, -⟩
  · rw [hv] at e; simp [Value.ownBlock] at e
  · rw [hv] at e
    simp [Value.ownBlock] at e
    subst e
    exact ⟨r2, lt_of_heap' r3⟩
theorem ownT_form {fm : Bool} {w : World} {z m : Nat} {v : Value} {l : List Tree} (ho : OwnT fm w z v l) (hm : l.length = m) : ∃ B c, v = .slice B m c := by
  subst hm
  obtain ⟨css, h1, h2, h3⟩ := ho.is
  rcases h3.2 with ⟨hv, h0⟩ | ⟨g, cap, cur, hv, -⟩
  · exact ⟨none, 0, by rw [hv, h0]⟩
  · exact ⟨_, _, hv⟩
theorem uform_end {fm : Bool} {wr : World} {z m op cm n : Nat} {name : List UInt8} {B : Option Addr} {cB : Nat} {ks : List Tree} (ho : OwnT fm wr z (.slice B m cB) ks) (hm : m = ks.length) : RdTree fm (fun b => z ≤ b) wr (tcs fm op name cm n (.slice B ks.length cB)) (.mk op name cm n ks) := by
  subst hm
  by_cases h : ks = []
  · subst h
    exact RdTree.leaf _ _ _ _ _ _
  · obtain ⟨g, cap, hv, h1, h2, h3, h4⟩ := ho.form h
    injection hv with hv1 _ hv3
    subst hv1 hv3
    exact ⟨_, _, rfl, h3, .inr ⟨g, 0, rfl, h1, h2, h4⟩⟩
theorem uform_call {fm : Bool} {wr w2 : World} {fb k z : Nat} {C : Array Value} {T : TypeId} {v : Value} {l : List Tree} (hb : Below wr.heap.size wr w2) (hf : wr.heap[fb]? = some (.cells C T (0, 0))) (ho : OwnT fm wr z v l) :
    w2.cell? ⟨fb, k, none⟩ = C[k]? ∧ fb < w2.heap.size ∧ Hid (w2.heap[fb]? = some (.cells C T (0, 0))) ∧ Hid (OwnT fm w2 z v l) := by
  have h := (hb.block _ (lt_of_heap' hf)).trans hf
  exact ⟨by simp [World.cell?, h], lt_of_heap' h, Lib.hid h, Lib.hid (ho.keep hb.size (fun b _ hlt => hb.block b hlt))⟩
theorem uform_app {fm : Bool} {w wr w2 W w3 : World} {v v' : Value} {j k : Nat} {l : List Tree} {x : Tree} {Ct Cr Cf : Array Value} {Tt Tr Tf : TypeId} {o : Obj} (ho : OwnT fm w3 (w.heap.size + 3) v' (l ++ [x])) (hg : W.grownBy w3 v.ownBlock) (hW : W.heap = (w2.alloc o).heap) (hWo : W.os = w2.os ∧ W.tape = w2.tape ∧ W.output = w2.output) (hl : l.length = j)
    (hf : w2.heap[w.heap.size + 1 + 1]? = some (.cells Cf Tf (0, 0))) (hb : Below w.heap.size w wr) (hb2 : Below wr.heap.size wr w2) (ht : wr.heap[w.heap.size]? = some (.cells Ct Tt (0, 0))) (hr : wr.heap[w.heap.size + 1]? = some (.cells Cr Tr (0, 0))) (hv : OwnT fm w2 (w.heap.size + 3) v l) :
    ∃ B c, v' = .slice B (j + 1) c ∧ w3.cell? ⟨w.heap.size + 1 + 1, k, none⟩ = Cf[k]? ∧ w3.frozen? ⟨w.heap.size + 1 + 1, k, none⟩ = false ∧ w.heap.size + 1 + 1 < w3.heap.size ∧ Hid (w3.heap[w.heap.size]? = some (.cells Ct Tt (0, 0))) ∧ Hid (w3.heap[w.heap.size + 1]? = some (.cells Cr Tr (0, 0))) ∧ Hid (w3.heap[w.heap.size + 1 + 1]? = some (.cells Cf Tf (0, 0))) ∧ Hid (Below w.heap.size w w3) := by
  obtain ⟨B, c, rfl⟩ := ownT_form ho (m := j + 1) (by simp [hl])
  have hsz : W.heap.size = w2.heap.size + 1 := by rw [hW]; simp
  have old : ∀ b, b < w.heap.size + 3 → b < w2.heap.size → w3.heap[b]? = w2.heap[b]? := fun b h1 h2 => (hg.block b (by omega) (fun e => by have := (ownT_own hv b e.symm).1; omega)).trans ((congrArg (·[b]?) hW).trans (Below.heap_alloc _ _ _ h2))
  have l1 := lt_of_heap' ht
  have l2 := lt_of_heap' hr
  have l3 := lt_of_heap' hf
  have h3 := (old _ (by omega) l3).trans hf
  have h1 := (old w.heap.size (by omega) (by have := hb2.size; omega)).trans ((hb2.block _ l1).trans ht)
  have h2 := (old (w.heap.size + 1) (by omega) (by have := hb2.size; omega)).trans ((hb2.block _ l2).trans hr)
  have b1 := hb.trans (hb2.mono hb.size)
  exact ⟨B, c, rfl, by simp [World.cell?, h3], frozen_of_blk h3, lt_of_heap' h3, Lib.hid h1, Lib.hid h2, Lib.hid h3, Lib.hid ⟨hg.os.trans (hWo.1.trans b1.os), hg.tape.trans (hWo.2.1.trans b1.tape), hg.output.trans (hWo.2.2.trans b1.output), by have := hg.size; have := b1.size; omega, fun b hlt => (old b (by omega) (by have := b1.size; omega)).trans (b1.block b hlt)⟩⟩
theorem step_app_true {ops : Array Oper} {o : Oper} {a : Act} {W : World} {K : Act → World → Prop} {Q : Exit → Act → World → Prop} {E : Prop} (hg : o.guard = none) (s x : Operand) (hop : o.op = Op.call { callee := Callee.builtin Builtin.append, args := #[s, x], argTypes := #[23, 23] })
    (w0 : World) (hh : W.heap = w0.heap) (base : Nat) (v : Value) (l : List Tree) (g0 : Nat) (cs : List Value) (t : Tree) (hs : a.eval s = v) (hx : a.eval x = .slice (some ⟨g0, 0, none⟩) 1 1) (hown : OwnT true w0 base v l)
    (hcs : ∀ (j : Nat) u, cs[j]? = some u → w0.cell? ⟨g0, 0 + j, none⟩ = some u) (hr : RdTree true (fun b => base ≤ b ∧ v.ownBlock ≠ some b) w0 cs t) (hlen : l.length + 1 ≤ 1000000) (hb : base ≤ w0.heap.size)
    (hK : ∀ v' w', OwnT true w' base v' (l ++ [t]) → W.grownBy w' v.ownBlock → K (a.put o.dst v') w') : if Region.wanted o (yielded ops a.tmps) = true then Oper.wp Tryz.prog o a W K Q else E := by
  obtain ⟨i0, hi0, hz0, hz1, hz2⟩ := info_parts info_f
  have hown' : OwnT true W base v l := hown.keep (by rw [hh]; exact Nat.le_refl _) (fun b _ _ => by rw [hh])
  obtain ⟨css, h1, h2, h3⟩ := hown'.is
  have hr' : RdTree true (fun b => base ≤ b ∧ v.ownBlock ≠ some b) W cs t := hr.keep (by rw [hh]; exact Nat.le_refl _) (fun b hb _ => ⟨hb, by rw [hh]⟩)
  have e1 : tE true = 25 := rfl
  have e2 : tsz true = 5 := rfl
  have hl := hr'.len
  rw [e1, e2] at h3
  have hw : Region.wanted o (yielded ops a.tmps) = true := by simp [Region.wanted, hg]
  rw [if_pos hw]
  obtain ⟨v', w', hrun, r1, r2, -, r4⟩ := run_append_own_at (P := Tryz.prog) W base 23 o.type 25 i0 (.agg #[.int .i64 0, .string ⟨#[]⟩, .int .i64 0, .int .i64 0, .slice none 0 0]) 5 64 Tryz.underlying23 hi0 hz0 hz1 hz2 rfl (by decide) v l.length css.flatten h3 ⟨g0, 0, none⟩ 1 1 cs (by rw [hl, e2]) (fun j u hu => by rw [Addr.add_lit]; exact (cell_of_heap (by rw [hh]) _).trans (hcs j u hu)) hr'.one (by unfold maxLen; omega) (by omega) (by rw [hh]; exact hb)
  unfold Oper.wp
  simp [execOp, hop, resolve, invoke, builtin, hs, hx, hrun, Result.andThen]
  exact hK v' w' (OwnT.snoc h1 h2 hr' (by rw [e1, e2]; exact r1) r2 r4) r2
set_option maxRecDepth 20000 in
set_option maxHeartbeats 4000000 in
theorem rformula_any : ∀ (N : Nat) (t : Tree) (cs : List Value) (d : Nat) (w : World), t.size ≤ N → t.size ≤ 900000 → RdU (fun _ => True) w cs d t →
    Calls Tryz.prog 13 #[.agg cs.toArray] w fun r w' => ∃ cs' : List Value, r = .returned (.agg cs'.toArray) ∧ RdTree true (fun b => w.heap.size ≤ b) w' cs' t ∧ Below w.heap.size w w' := by
  intro N
  induction N with
  | zero =>
    intro t cs d w hN
    cases t
    simp [Tree.size] at hN
  | succ N ih =>
    intro t cs d w hN hs hrt
    have IH := Lib.hid ih
    obtain ⟨op, name, cm, m, ks⟩ := t
    obtain ⟨A, cap, rfl, hcap, hkids⟩ := hrt
    have HKIDS := Lib.hid hkids
    simp only [Tree.size] at hN hs
    have hln := len_le_sizes ks
    simp only [ucs]
    have hq1 : (w.alloc (.cells #[.int .i64 (op : Nat), vs name, .int .i64 (cm : Nat), .int .i64 (m : Nat), .slice A ks.length cap, .int .i64 (d : Nat)] 52 (0, 0))).heap.size = w.heap.size + 1 := by simp
    clear ih hkids hcap hq1
    go_enter Tryz.func13, Tryz.ntmps13
    go_wp2_with fail
    have HB0 : Hid (Below w.heap.size w (((w.alloc (.cells #[.int .i64 (op : Nat), vs name, .int .i64 (cm : Nat), .int .i64 (m : Nat), .slice A ks.length cap, .int .i64 (d : Nat)] 52 (0, 0))).alloc (.cells #[.int .i64 0, .string ⟨#[]⟩, .int .i64 0, .int .i64 0, .slice none 0 0] 25 (0, 0))).alloc (.cells #[.int .i64 (op : Nat), vs name, .int .i64 (cm : Nat), .int .i64 (m : Nat), .slice none 0 0] 25 (0, 0)))) := Lib.hid ((((Below.refl _ _).alloc (Nat.le_refl _) _).alloc (by simp only [World.size_alloc]; omega) _).alloc (by simp only [World.size_alloc]; omega) _)
    have HT0 : Hid ((((w.alloc (.cells #[.int .i64 (op : Nat), vs name, .int .i64 (cm : Nat), .int .i64 (m : Nat), .slice A ks.length cap, .int .i64 (d : Nat)] 52 (0, 0))).alloc (.cells #[.int .i64 0, .string ⟨#[]⟩, .int .i64 0, .int .i64 0, .slice none 0 0] 25 (0, 0))).alloc (.cells #[.int .i64 (op : Nat), vs name, .int .i64 (cm : Nat), .int .i64 (m : Nat), .slice none 0 0] 25 (0, 0))).heap[w.heap.size]? = some (.cells #[.int .i64 (op : Nat), vs name, .int .i64 (cm : Nat), .int .i64 (m : Nat), .slice A ks.length cap, .int .i64 (d : Nat)] 52 (0, 0))) := Lib.hid (old_at (old_at (heap_alloc_new w _)))
    have HR0 : Hid ((((w.alloc (.cells #[.int .i64 (op : Nat), vs name, .int .i64 (cm : Nat), .int .i64 (m : Nat), .slice A ks.length cap, .int .i64 (d : Nat)] 52 (0, 0))).alloc (.cells #[.int .i64 0, .string ⟨#[]⟩, .int .i64 0, .int .i64 0, .slice none 0 0] 25 (0, 0))).alloc (.cells #[.int .i64 (op : Nat), vs name, .int .i64 (cm : Nat), .int .i64 (m : Nat), .slice none 0 0] 25 (0, 0))).heap[w.heap.size + 1]? = some (.cells #[.int .i64 0, .string ⟨#[]⟩, .int .i64 0, .int .i64 0, .slice none 0 0] 25 (0, 0))) := Lib.hid (old_at (alloc_at (by simp only [World.size_alloc])))
    have HF0 : Hid ((((w.alloc (.cells #[.int .i64 (op : Nat), vs name, .int .i64 (cm : Nat), .int .i64 (m : Nat), .slice A ks.length cap, .int .i64 (d : Nat)] 52 (0, 0))).alloc (.cells #[.int .i64 0, .string ⟨#[]⟩, .int .i64 0, .int .i64 0, .slice none 0 0] 25 (0, 0))).alloc (.cells #[.int .i64 (op : Nat), vs name, .int .i64 (cm : Nat), .int .i64 (m : Nat), .slice none 0 0] 25 (0, 0))).heap[w.heap.size + 1 + 1]? = some (.cells #[.int .i64 (op : Nat), vs name, .int .i64 (cm : Nat), .int .i64 (m : Nat), .slice none 0 0] 25 (0, 0))) := Lib.hid (alloc_at (by simp only [World.size_alloc]))
    generalize ((w.alloc (.cells #[.int .i64 (op : Nat), vs name, .int .i64 (cm : Nat), .int .i64 (m : Nat), .slice A ks.length cap, .int .i64 (d : Nat)] 52 (0, 0))).alloc (.cells #[.int .i64 0, .string ⟨#[]⟩, .int .i64 0, .int .i64 0, .slice none 0 0] 25 (0, 0))).alloc (.cells #[.int .i64 (op : Nat), vs name, .int .i64 (cm : Nat), .int .i64 (m : Nat), .slice none 0 0] 25 (0, 0)) = w0 at *
    go_loopw [4] (fun v4 wr => ∃ (j : Nat) (B : Option Addr) (cB : Nat), j ≤ ks.length ∧ v4 = .int .i64 j ∧ Below w.heap.size w wr ∧ wr.heap[w.heap.size]? = some (.cells #[.int .i64 (op : Nat), vs name, .int .i64 (cm : Nat), .int .i64 (m : Nat), .slice A ks.length cap, .int .i64 (d : Nat)] 52 (0, 0)) ∧ wr.heap[w.heap.size + 1]? = some (.cells #[.int .i64 0, .string ⟨#[]⟩, .int .i64 0, .int .i64 0, .slice none 0 0] 25 (0, 0)) ∧
      wr.heap[w.heap.size + 1 + 1]? = some (.cells #[.int .i64 (op : Nat), vs name, .int .i64 (cm : Nat), .int .i64 (m : Nat), .slice B j cB] 25 (0, 0)) ∧ OwnT true wr (w.heap.size + 3) (.slice B j cB) (ks.take j)) (fun v4 _ => ks.length - (intOf v4).toNat)
    case atStart => exact ⟨0, none, 0, Nat.zero_le _, rfl, HB0.out, HT0.out, HR0.out, HF0.out, OwnT.nil⟩
    case round =>
      obtain ⟨j, B, cB, hj, rfl, hb, ht, hr, hf, ho⟩ := hrel
      have HB := Lib.hid hb
      have HTX := Lib.hid ht
      have HRX := Lib.hid hr
      have HFX := Lib.hid hf
      have HO := Lib.hid ho
      have t4 := cell_of_blk (o := 4) ht rfl
      have tl := lt_of_heap' ht
      clear hb ht hr ho
      by_cases hlt : j < ks.length
      · obtain ⟨x, hx⟩ := get_of_lt hlt
        have hst2 := size_of_mem hx
        have HX := Lib.hid hx
        have HTK := Lib.hid (take_snoc hx)
        obtain h0 | ⟨b, off, rfl, -, hbs, hkd⟩ := HKIDS.out
        · rw [h0] at hlt; simp at hlt
        obtain ⟨cs, dx, hcs, hrx⟩ := hkd.get hx
        have HRDX := Lib.hid hrx
        obtain ⟨op', nm', cm', m', ks'⟩ := x
        obtain ⟨A', cap', rfl, -, -⟩ := hrx
        have hbw : b < wr.heap.size := Nat.lt_of_lt_of_le hbs HB.out.size
        have e0 : wr.cell? ⟨b, off + j * 6, none⟩ = some (.int .i64 op') := (HB.out.cell (p := ⟨b, off + j * 6, none⟩) hbs).trans (hcs 0 _ rfl)
        have e1 : wr.cell? ⟨b, off + j * 6 + 1, none⟩ = some (vs nm') := (HB.out.cell (p := ⟨b, off + j * 6 + 1, none⟩) hbs).trans (hcs 1 _ rfl)
        have e2 : wr.cell? ⟨b, off + j * 6 + 2, none⟩ = some (.int .i64 cm') := (HB.out.cell (p := ⟨b, off + j * 6 + 2, none⟩) hbs).trans (hcs 2 _ rfl)
        have e3 : wr.cell? ⟨b, off + j * 6 + 3, none⟩ = some (.int .i64 m') := (HB.out.cell (p := ⟨b, off + j * 6 + 3, none⟩) hbs).trans (hcs 3 _ rfl)
        have e4 : wr.cell? ⟨b, off + j * 6 + 4, none⟩ = some (.slice A' ks'.length cap') := (HB.out.cell (p := ⟨b, off + j * 6 + 4, none⟩) hbs).trans (hcs 4 _ rfl)
        have e5 : wr.cell? ⟨b, off + j * 6 + 5, none⟩ = some (.int .i64 dx) := (HB.out.cell (p := ⟨b, off + j * 6 + 5, none⟩) hbs).trans (hcs 5 _ rfl)
        have fl := lt_of_heap' hf
        have f4 := cell_of_blk (o := 4) hf rfl
        have hk1 : (j : Int) < ks.length := by omega
        have hk0 : (0 : Int) ≤ j := by omega
        have HCALL : Hid (Calls Tryz.prog 13 #[.agg (ucs op' nm' cm' m' (.slice A' ks'.length cap') dx).toArray] wr.drew fun r w' => ∃ A2 q2, r = .returned (.agg #[.int .i64 (op' : Nat), vs nm', .int .i64 (cm' : Nat), .int .i64 (m' : Nat), .slice A2 ks'.length q2]) ∧ RdTree true (fun b => wr.heap.size ≤ b) w' [.int .i64 (op' : Nat), vs nm', .int .i64 (cm' : Nat), .int .i64 (m' : Nat), .slice A2 ks'.length q2] (.mk op' nm' cm' m' ks') ∧ Below wr.heap.size wr.drew w') := Lib.hid ((IH.out (.mk op' nm' cm' m' ks') _ dx wr.drew (by omega) (by omega) (RdU.keep (w' := wr.drew) HB.out.size (fun b _ hlt => ⟨trivial, HB.out.block b hlt⟩) HRDX.out)).mono (fun r w' h => by
          obtain ⟨cs', h1, h2, h3⟩ := h
          have h4 := h2
          obtain ⟨A2, q2, rfl, -, -⟩ := h4
          exact ⟨A2, q2, h1, h2, h3⟩))
        have HLN : Hid (j < 900000) := Lib.hid (by omega)
        have HLJ : Hid ((ks.take j).length = j) := Lib.hid (by simp; omega)
        clear hx hkd hcs hf hst2
        go_wp2_with fail
        go_region_law (first
          | (go_simp; go_at_call 13; refine HCALL.out.mono ?_; rintro r w2 ⟨A2, q2, rfl, hr2, hb2⟩; have HR2 := Lib.hid hr2; have HB2 := Lib.hid (below_undrew hb2); obtain ⟨g4, gl, GF, GO⟩ := uform_call (k := 4) HB2.out HFX.out HO.out; clear hr2 hb2)
          | (refine step_app_true rfl (.tmp 22) (.tmp 29) rfl (w2.alloc (.cells #[.int .i64 (op' : Nat), vs nm', .int .i64 (cm' : Nat), .int .i64 (m' : Nat), .slice A2 ks'.length q2] 25 (0, 0))) rfl (w.heap.size + 3) (.slice B j cB) (ks.take j) w2.heap.size [.int .i64 (op' : Nat), vs nm', .int .i64 (cm' : Nat), .int .i64 (m' : Nat), .slice A2 ks'.length q2] (.mk op' nm' cm' m' ks') rfl rfl (GO.out.keep (by simp) (fun b _ hlt => Below.heap_alloc _ _ _ hlt)) (fun i u hu => by rw [Nat.zero_add]; exact cell_of_blk (heap_alloc_new w2 _) (by simpa using hu)) (ukid HR2.out HB2.out HO.out fl) (by have := HLN.out; have := HLJ.out; omega) (by have := HB2.out.size; simp; omega) ?_; intro v' w3 ho3 hg3; have HO3 := Lib.hid ho3; obtain ⟨B3, c3, rfl, s1, s2, s3, HT3, HR3, HF3, HB3⟩ := uform_app (k := 4) (o := .cells #[.int .i64 (op' : Nat), vs nm', .int .i64 (cm' : Nat), .int .i64 (m' : Nat), .slice A2 ks'.length q2] 25 (0, 0)) ho3 hg3 rfl ⟨rfl, rfl, rfl⟩ HLJ.out GF.out HB.out HB2.out HTX.out HRX.out GO.out; clear ho3 hg3))
        all_goals
          go_wp2_with fail
          exact ⟨⟨j + 1, B3, c3, hlt, by go_num, HB3.out.setCell (by show w.heap.size ≤ w.heap.size + 1 + 1; omega) _, (Below.heap_setCell _ _ _ _ (by simp; omega)).trans HT3.out, (Below.heap_setCell _ _ _ _ (by simp)).trans HR3.out, row_setCell HF3.out, by rw [HTK.out]; exact HO3.out.keep (by simp) (fun b hb _ => Below.heap_setCell _ _ _ _ (by simp; omega))⟩, by simp [intOf]; omega⟩
      · obtain rfl : j = ks.length := by omega
        have hk1 : ¬ ((ks.length : Nat) : Int) < ks.length := by omega
        have hown := HO.out
        rw [List.take_length] at hown
        have HOW := Lib.hid hown
        have f0 := cell_of_blk (o := 0) hf rfl
        have f1 := cell_of_blk (o := 1) hf rfl
        have f2 := cell_of_blk (o := 2) hf rfl
        have f3 := cell_of_blk (o := 3) hf rfl
        have f4 := cell_of_blk (o := 4) hf rfl
        have fl := lt_of_heap' hf
        have r0 := cell_of_blk (o := 0) HRX.out rfl
        have y0 := frozen_of_blk (o := 0) HRX.out
        have r1 := cell_of_blk (o := 1) HRX.out rfl
        have y1 := frozen_of_blk (o := 1) HRX.out
        have r2 := cell_of_blk (o := 2) HRX.out rfl
        have y2 := frozen_of_blk (o := 2) HRX.out
        have r3 := cell_of_blk (o := 3) HRX.out rfl
        have y3 := frozen_of_blk (o := 3) HRX.out
        have r4 := cell_of_blk (o := 4) HRX.out rfl
        have y4 := frozen_of_blk (o := 4) HRX.out
        have rl := lt_of_heap' HRX.out
        clear hown hf hlt
        go_wp2_with fail
        refine bodyPost_ret (v := .agg #[.int .i64 (op : Nat), vs name, .int .i64 (cm : Nat), .int .i64 (m : Nat), .slice B ks.length cB]) (by simp [results, Tryz.results13, go_sem, *]) rfl ?_
        refine ⟨[.int .i64 (op : Nat), vs name, .int .i64 (cm : Nat), .int .i64 (m : Nat), .slice B ks.length cB], rfl, ?_, (((((HB.out.setCell (by show w.heap.size ≤ w.heap.size + 1; omega) _).setCell (by show w.heap.size ≤ w.heap.size + 1; omega) _).setCell (by show w.heap.size ≤ w.heap.size + 1; omega) _).setCell (by show w.heap.size ≤ w.heap.size + 1; omega) _).setCell (by show w.heap.size ≤ w.heap.size + 1; omega) _)⟩
        exact (uform_end (fm := true) HOW.out rfl).keep (by simp) (fun b hb _ => ⟨by omega, by
          rw [Below.heap_setCell _ _ _ _ (by simp; omega), Below.heap_setCell _ _ _ _ (by simp; omega), Below.heap_setCell _ _ _ _ (by simp; omega), Below.heap_setCell _ _ _ _ (by simp; omega), Below.heap_setCell _ _ _ _ (by simp; omega)]⟩)
theorem step_app_false {ops : Array Oper} {o : Oper} {a : Act} {W : World} {K : Act → World → Prop} {Q : Exit → Act → World → Prop} {E : Prop} (hg : o.guard = none) (s x : Operand) (hop : o.op = Op.call { callee := Callee.builtin Builtin.append, args := #[s, x], argTypes := #[27, 27] })
    (w0 : World) (hh : W.heap = w0.heap) (base : Nat) (v : Value) (l : List Tree) (g0 : Nat) (cs : List Value) (t : Tree) (hs : a.eval s = v) (hx : a.eval x = .slice (some ⟨g0, 0, none⟩) 1 1) (hown : OwnT false w0 base v l)
    (hcs : ∀ (j : Nat) u, cs[j]? = some u → w0.cell? ⟨g0, 0 + j, none⟩ = some u) (hr : RdTree false (fun b => base ≤ b ∧ v.ownBlock ≠ some b) w0 cs t) (hlen : l.length + 1 ≤ 1000000) (hb : base ≤ w0.heap.size)
    (hK : ∀ v' w', OwnT false w' base v' (l ++ [t]) → W.grownBy w' v.ownBlock → K (a.put o.dst v') w') : if Region.wanted o (yielded ops a.tmps) = true then Oper.wp Tryz.prog o a W K Q else E := by
  obtain ⟨i0, hi0, hz0, hz1, hz2⟩ := info_parts info_s
  have hown' : OwnT false W base v l := hown.keep (by rw [hh]; exact Nat.le_refl _) (fun b _ _ => by rw [hh])
  obtain ⟨css, h1, h2, h3⟩ := hown'.is
  have hr' : RdTree false (fun b => base ≤ b ∧ v.ownBlock ≠ some b) W cs t := hr.keep (by rw [hh]; exact Nat.le_refl _) (fun b hb _ => ⟨hb, by rw [hh]⟩)
  have e1 : tE false = 29 := rfl
  have e2 : tsz false = 4 := rfl
  have hl := hr'.len
  rw [e1, e2] at h3
  have hw : Region.wanted o (yielded ops a.tmps) = true := by simp [Region.wanted, hg]
  rw [if_pos hw]
  obtain ⟨v', w', hrun, r1, r2, -, r4⟩ := run_append_own_at (P := Tryz.prog) W base 27 o.type 29 i0 (.agg #[.int .i64 0, .string ⟨#[]⟩, .int .i64 0, .slice none 0 0]) 4 56 Tryz.underlying27 hi0 hz0 hz1 hz2 rfl (by decide) v l.length css.flatten h3 ⟨g0, 0, none⟩ 1 1 cs (by rw [hl, e2]) (fun j u hu => by rw [Addr.add_lit]; exact (cell_of_heap (by rw [hh]) _).trans (hcs j u hu)) hr'.one (by unfold maxLen; omega) (by omega) (by rw [hh]; exact hb)
  unfold Oper.wp
  simp [execOp, hop, resolve, invoke, builtin, hs, hx, hrun, Result.andThen]
  exact hK v' w' (OwnT.snoc h1 h2 hr' (by rw [e1, e2]; exact r1) r2 r4) r2
set_option maxRecDepth 20000 in
set_option maxHeartbeats 4000000 in
theorem rcondition_any : ∀ (N : Nat) (t : Tree) (cs : List Value) (d : Nat) (w : World), t.size ≤ N → t.size ≤ 900000 → RdU (fun _ => True) w cs d t →
    Calls Tryz.prog 19 #[.agg cs.toArray] w fun r w' => ∃ cs' : List Value, r = .returned (.agg cs'.toArray) ∧ RdTree false (fun b => w.heap.size ≤ b) w' cs' t ∧ Below w.heap.size w w' := by
  intro N
  induction N with
  | zero =>
    intro t cs d w hN
    cases t
    simp [Tree.size] at hN
  | succ N ih =>
    intro t cs d w hN hs hrt
    have IH := Lib.hid ih
    obtain ⟨op, name, cm, m, ks⟩ := t
    obtain ⟨A, cap, rfl, hcap, hkids⟩ := hrt
    have HKIDS := Lib.hid hkids
    simp only [Tree.size] at hN hs
    have hln := len_le_sizes ks
    simp only [ucs]
    have hq1 : (w.alloc (.cells #[.int .i64 (op : Nat), vs name, .int .i64 (cm : Nat), .int .i64 (m : Nat), .slice A ks.length cap, .int .i64 (d : Nat)] 52 (0, 0))).heap.size = w.heap.size + 1 := by simp
    clear ih hkids hcap hq1
    go_enter Tryz.func19, Tryz.ntmps19
    go_wp2_with fail
    have HB0 : Hid (Below w.heap.size w (((w.alloc (.cells #[.int .i64 (op : Nat), vs name, .int .i64 (cm : Nat), .int .i64 (m : Nat), .slice A ks.length cap, .int .i64 (d : Nat)] 52 (0, 0))).alloc (.cells #[.int .i64 0, .string ⟨#[]⟩, .int .i64 0, .slice none 0 0] 29 (0, 0))).alloc (.cells #[.int .i64 (op : Nat), vs name, .int .i64 (m : Nat), .slice none 0 0] 29 (0, 0)))) := Lib.hid ((((Below.refl _ _).alloc (Nat.le_refl _) _).alloc (by simp only [World.size_alloc]; omega) _).alloc (by simp only [World.size_alloc]; omega) _)
    have HT0 : Hid ((((w.alloc (.cells #[.int .i64 (op : Nat), vs name, .int .i64 (cm : Nat), .int .i64 (m : Nat), .slice A ks.length cap, .int .i64 (d : Nat)] 52 (0, 0))).alloc (.cells #[.int .i64 0, .string ⟨#[]⟩, .int .i64 0, .slice none 0 0] 29 (0, 0))).alloc (.cells #[.int .i64 (op : Nat), vs name, .int .i64 (m : Nat), .slice none 0 0] 29 (0, 0))).heap[w.heap.size]? = some (.cells #[.int .i64 (op : Nat), vs name, .int .i64 (cm : Nat), .int .i64 (m : Nat), .slice A ks.length cap, .int .i64 (d : Nat)] 52 (0, 0))) := Lib.hid (old_at (old_at (heap_alloc_new w _)))
    have HR0 : Hid ((((w.alloc (.cells #[.int .i64 (op : Nat), vs name, .int .i64 (cm : Nat), .int .i64 (m : Nat), .slice A ks.length cap, .int .i64 (d : Nat)] 52 (0, 0))).alloc (.cells #[.int .i64 0, .string ⟨#[]⟩, .int .i64 0, .slice none 0 0] 29 (0, 0))).alloc (.cells #[.int .i64 (op : Nat), vs name, .int .i64 (m : Nat), .slice none 0 0] 29 (0, 0))).heap[w.heap.size + 1]? = some (.cells #[.int .i64 0, .string ⟨#[]⟩, .int .i64 0, .slice none 0 0] 29 (0, 0))) := Lib.hid (old_at (alloc_at (by simp only [World.size_alloc])))
    have HF0 : Hid ((((w.alloc (.cells #[.int .i64 (op : Nat), vs name, .int .i64 (cm : Nat), .int .i64 (m : Nat), .slice A ks.length cap, .int .i64 (d : Nat)] 52 (0, 0))).alloc (.cells #[.int .i64 0, .string ⟨#[]⟩, .int .i64 0, .slice none 0 0] 29 (0, 0))).alloc (.cells #[.int .i64 (op : Nat), vs name, .int .i64 (m : Nat), .slice none 0 0] 29 (0, 0))).heap[w.heap.size + 1 + 1]? = some (.cells #[.int .i64 (op : Nat), vs name, .int .i64 (m : Nat), .slice none 0 0] 29 (0, 0))) := Lib.hid (alloc_at (by simp only [World.size_alloc]))
    generalize ((w.alloc (.cells #[.int .i64 (op : Nat), vs name, .int .i64 (cm : Nat), .int .i64 (m : Nat), .slice A ks.length cap, .int .i64 (d : Nat)] 52 (0, 0))).alloc (.cells #[.int .i64 0, .string ⟨#[]⟩, .int .i64 0, .slice none 0 0] 29 (0, 0))).alloc (.cells #[.int .i64 (op : Nat), vs name, .int .i64 (m : Nat), .slice none 0 0] 29 (0, 0)) = w0 at *
    go_loopw [4] (fun v4 wr => ∃ (j : Nat) (B : Option Addr) (cB : Nat), j ≤ ks.length ∧ v4 = .int .i64 j ∧ Below w.heap.size w wr ∧ wr.heap[w.heap.size]? = some (.cells #[.int .i64 (op : Nat), vs name, .int .i64 (cm : Nat), .int .i64 (m : Nat), .slice A ks.length cap, .int .i64 (d : Nat)] 52 (0, 0)) ∧ wr.heap[w.heap.size + 1]? = some (.cells #[.int .i64 0, .string ⟨#[]⟩, .int .i64 0, .slice none 0 0] 29 (0, 0)) ∧
      wr.heap[w.heap.size + 1 + 1]? = some (.cells #[.int .i64 (op : Nat), vs name, .int .i64 (m : Nat), .slice B j cB] 29 (0, 0)) ∧ OwnT false wr (w.heap.size + 3) (.slice B j cB) (ks.take j)) (fun v4 _ => ks.length - (intOf v4).toNat)
    case atStart => exact ⟨0, none, 0, Nat.zero_le _, rfl, HB0.out, HT0.out, HR0.out, HF0.out, OwnT.nil⟩
    case round =>
      obtain ⟨j, B, cB, hj, rfl, hb, ht, hr, hf, ho⟩ := hrel
      have HB := Lib.hid hb
      have HTX := Lib.hid ht
      have HRX := Lib.hid hr
      have HFX := Lib.hid hf
      have HO := Lib.hid ho
      have t4 := cell_of_blk (o := 4) ht rfl
      have tl := lt_of_heap' ht
      clear hb ht hr ho
      by_cases hlt : j < ks.length
      · obtain ⟨x, hx⟩ := get_of_lt hlt
        have hst2 := size_of_mem hx
        have HX := Lib.hid hx
        have HTK := Lib.hid (take_snoc hx)
        obtain h0 | ⟨b, off, rfl, -, hbs, hkd⟩ := HKIDS.out
        · rw [h0] at hlt; simp at hlt
        obtain ⟨cs, dx, hcs, hrx⟩ := hkd.get hx
        have HRDX := Lib.hid hrx
        obtain ⟨op', nm', cm', m', ks'⟩ := x
        obtain ⟨A', cap', rfl, -, -⟩ := hrx
        have hbw : b < wr.heap.size := Nat.lt_of_lt_of_le hbs HB.out.size
        have e0 : wr.cell? ⟨b, off + j * 6, none⟩ = some (.int .i64 op') := (HB.out.cell (p := ⟨b, off + j * 6, none⟩) hbs).trans (hcs 0 _ rfl)
        have e1 : wr.cell? ⟨b, off + j * 6 + 1, none⟩ = some (vs nm') := (HB.out.cell (p := ⟨b, off + j * 6 + 1, none⟩) hbs).trans (hcs 1 _ rfl)
        have e2 : wr.cell? ⟨b, off + j * 6 + 2, none⟩ = some (.int .i64 cm') := (HB.out.cell (p := ⟨b, off + j * 6 + 2, none⟩) hbs).trans (hcs 2 _ rfl)
        have e3 : wr.cell? ⟨b, off + j * 6 + 3, none⟩ = some (.int .i64 m') := (HB.out.cell (p := ⟨b, off + j * 6 + 3, none⟩) hbs).trans (hcs 3 _ rfl)
        have e4 : wr.cell? ⟨b, off + j * 6 + 4, none⟩ = some (.slice A' ks'.length cap') := (HB.out.cell (p := ⟨b, off + j * 6 + 4, none⟩) hbs).trans (hcs 4 _ rfl)
        have e5 : wr.cell? ⟨b, off + j * 6 + 5, none⟩ = some (.int .i64 dx) := (HB.out.cell (p := ⟨b, off + j * 6 + 5, none⟩) hbs).trans (hcs 5 _ rfl)
        have fl := lt_of_heap' hf
        have f4 := cell_of_blk (o := 3) hf rfl
        have hk1 : (j : Int) < ks.length := by omega
        have hk0 : (0 : Int) ≤ j := by omega
        have HCALL : Hid (Calls Tryz.prog 19 #[.agg (ucs op' nm' cm' m' (.slice A' ks'.length cap') dx).toArray] wr.drew fun r w' => ∃ A2 q2, r = .returned (.agg #[.int .i64 (op' : Nat), vs nm', .int .i64 (m' : Nat), .slice A2 ks'.length q2]) ∧ RdTree false (fun b => wr.heap.size ≤ b) w' [.int .i64 (op' : Nat), vs nm', .int .i64 (m' : Nat), .slice A2 ks'.length q2] (.mk op' nm' cm' m' ks') ∧ Below wr.heap.size wr.drew w') := Lib.hid ((IH.out (.mk op' nm' cm' m' ks') _ dx wr.drew (by omega) (by omega) (RdU.keep (w' := wr.drew) HB.out.size (fun b _ hlt => ⟨trivial, HB.out.block b hlt⟩) HRDX.out)).mono (fun r w' h => by
          obtain ⟨cs', h1, h2, h3⟩ := h
          have h4 := h2
          obtain ⟨A2, q2, rfl, -, -⟩ := h4
          exact ⟨A2, q2, h1, h2, h3⟩))
        have HLN : Hid (j < 900000) := Lib.hid (by omega)
        have HLJ : Hid ((ks.take j).length = j) := Lib.hid (by simp; omega)
        clear hx hkd hcs hf hst2
        go_wp2_with fail
        go_region_law (first
          | (go_simp; go_at_call 19; refine HCALL.out.mono ?_; rintro r w2 ⟨A2, q2, rfl, hr2, hb2⟩; have HR2 := Lib.hid hr2; have HB2 := Lib.hid (below_undrew hb2); obtain ⟨g4, gl, GF, GO⟩ := uform_call (k := 3) HB2.out HFX.out HO.out; clear hr2 hb2)
          | (refine step_app_false rfl (.tmp 20) (.tmp 27) rfl (w2.alloc (.cells #[.int .i64 (op' : Nat), vs nm', .int .i64 (m' : Nat), .slice A2 ks'.length q2] 29 (0, 0))) rfl (w.heap.size + 3) (.slice B j cB) (ks.take j) w2.heap.size [.int .i64 (op' : Nat), vs nm', .int .i64 (m' : Nat), .slice A2 ks'.length q2] (.mk op' nm' cm' m' ks') rfl rfl (GO.out.keep (by simp) (fun b _ hlt => Below.heap_alloc _ _ _ hlt)) (fun i u hu => by rw [Nat.zero_add]; exact cell_of_blk (heap_alloc_new w2 _) (by simpa using hu)) (ukid HR2.out HB2.out HO.out fl) (by have := HLN.out; have := HLJ.out; omega) (by have := HB2.out.size; simp; omega) ?_; intro v' w3 ho3 hg3; have HO3 := Lib.hid ho3; obtain ⟨B3, c3, rfl, s1, s2, s3, HT3, HR3, HF3, HB3⟩ := uform_app (k := 3) (o := .cells #[.int .i64 (op' : Nat), vs nm', .int .i64 (m' : Nat), .slice A2 ks'.length q2] 29 (0, 0)) ho3 hg3 rfl ⟨rfl, rfl, rfl⟩ HLJ.out GF.out HB.out HB2.out HTX.out HRX.out GO.out; clear ho3 hg3))
        all_goals
          go_wp2_with fail
          exact ⟨⟨j + 1, B3, c3, hlt, by go_num, HB3.out.setCell (by show w.heap.size ≤ w.heap.size + 1 + 1; omega) _, (Below.heap_setCell _ _ _ _ (by simp; omega)).trans HT3.out, (Below.heap_setCell _ _ _ _ (by simp)).trans HR3.out, row_setCell HF3.out, by rw [HTK.out]; exact HO3.out.keep (by simp) (fun b hb _ => Below.heap_setCell _ _ _ _ (by simp; omega))⟩, by simp [intOf]; omega⟩
      · obtain rfl : j = ks.length := by omega
        have hk1 : ¬ ((ks.length : Nat) : Int) < ks.length := by omega
        have hown := HO.out
        rw [List.take_length] at hown
        have HOW := Lib.hid hown
        have f0 := cell_of_blk (o := 0) hf rfl
        have f1 := cell_of_blk (o := 1) hf rfl
        have f2 := cell_of_blk (o := 2) hf rfl
        have f3 := cell_of_blk (o := 3) hf rfl
        have fl := lt_of_heap' hf
        have r0 := cell_of_blk (o := 0) HRX.out rfl
        have y0 := frozen_of_blk (o := 0) HRX.out
        have r1 := cell_of_blk (o := 1) HRX.out rfl
        have y1 := frozen_of_blk (o := 1) HRX.out
        have r2 := cell_of_blk (o := 2) HRX.out rfl
        have y2 := frozen_of_blk (o := 2) HRX.out
        have r3 := cell_of_blk (o := 3) HRX.out rfl
        have y3 := frozen_of_blk (o := 3) HRX.out
        have rl := lt_of_heap' HRX.out
        clear hown hf hlt
        go_wp2_with fail
        refine bodyPost_ret (v := .agg #[.int .i64 (op : Nat), vs name, .int .i64 (m : Nat), .slice B ks.length cB]) (by simp [results, Tryz.results19, go_sem, *]) rfl ?_
        refine ⟨[.int .i64 (op : Nat), vs name, .int .i64 (m : Nat), .slice B ks.length cB], rfl, ?_, ((((HB.out.setCell (by show w.heap.size ≤ w.heap.size + 1; omega) _).setCell (by show w.heap.size ≤ w.heap.size + 1; omega) _).setCell (by show w.heap.size ≤ w.heap.size + 1; omega) _).setCell (by show w.heap.size ≤ w.heap.size + 1; omega) _)⟩
        exact (uform_end (fm := false) HOW.out rfl).keep (by simp) (fun b hb _ => ⟨by omega, by
          rw [Below.heap_setCell _ _ _ _ (by simp; omega), Below.heap_setCell _ _ _ _ (by simp; omega), Below.heap_setCell _ _ _ _ (by simp; omega), Below.heap_setCell _ _ _ _ (by simp; omega)]⟩)
end Go.Proofs.YtcekampdldkjlaaGreatDoor
