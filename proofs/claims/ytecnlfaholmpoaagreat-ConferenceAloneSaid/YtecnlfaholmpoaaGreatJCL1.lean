/- The law ConferenceAlone. -/
import Derived.Test.YtecnlfaholmpoaaGreatJC41
set_option linter.unusedVariables false
set_option linter.unusedSimpArgs false
set_option maxRecDepth 20000
set_option maxHeartbeats 8000000
namespace Go.Proofs.YtecnlfaholmpoaaGreat
open Go.RowKit
theorem few0_at {cs : List Clause} {q : Bool} (h : fewC [] cs 20 = q) (B : Option Addr) (d : Nat) (w : World) (hs : RdC w B cs) (hfp : ∀ x ∈ cs, x.patch.Fits) :
 Calls Tryz.prog 25 #[.agg #[.slice none 0 0], .slice B cs.length d, .int .i64 20] w fun e w' => e = .returned (.bool q) ∧ Below w.heap.size w w' :=
 few_at (l := []) h none B 0 d w (by decide) (rdi_nil _) hs (by decide) (by simp) hfp
theorem properr_at {l : List Clause} {q : Bool} (h : seatsB l = q) (A : Option Addr) (c : Nat) (w : World) (hr : RdC w A l) (hl : l.length ≤ 1000) :
 Calls Tryz.prog 29 #[.slice A l.length c] w fun e w' => e = .returned (.bool q) ∧ Below w.heap.size w w' := by
 subst h
 exact properr_any l A c w hr hl
theorem rdc_nil (w : World) : RdC w none [] := fun h => absurd rfl h
theorem some_take {l : List Clause} {k : Nat} {x : Clause} (hx : l[k]? = some x) : putSome [] (l.take (k + 1)) = putP (putSome [] (l.take k)) x := by
 unfold putSome
 rw [List.take_add_one, hx, List.foldl_append]
 rfl
theorem some_len (l : List Clause) : (putSome [] l).length ≤ l.length := by
 have := (putSome_ok l [] [] PutsOk.nil).2
 simpa using this
theorem alone_f (l : List Clause) (A : Option Addr) (c : Nat) (w : World) (m : Int) (hr : RdC w A l) (hl : l.length ≤ maxLen) (hfp : ∀ x ∈ l, x.patch.Fits) (hg : w.cell? ⟨0, 0, none⟩ = some (.int .i64 m)) (hfew : fewC [] l 20 = false) : Calls Tryz.prog 7 #[.slice A l.length c] w fun e w' => e = .returned (.bool true) ∧ Below w.heap.size w w' := by
 have HR := Lib.hid hr; clear hr
 have HFP := Lib.hid hfp; clear hfp
 have HG := Lib.hid hg; clear hg
 have HFEW := Lib.hid hfew; clear hfew
 go_enter Tryz.func7, Tryz.ntmps7
 go_wp2_with fail
 refine (head38_any _ m HG.out).mono ?_
 rintro e w1 ⟨rfl, hb1⟩
 have HB1 := Lib.hid hb1; clear hb1
 go_wp2_with fail
 refine (few0_at HFEW.out A c w1 (HR.out.below HB1.out) HFP.out).mono ?_
 rintro e w2 ⟨rfl, hb2⟩
 have HB2 := Lib.hid (chain2 HB1.out hb2); clear hb2
 go_wp2_with fail
 go_ret
 exact ⟨rfl, HB2.out⟩
theorem alone_p (l : List Clause) (A : Option Addr) (c : Nat) (w : World) (m : Int) (hr : RdC w A l) (hl : l.length ≤ maxLen) (hfp : ∀ x ∈ l, x.patch.Fits) (hg : w.cell? ⟨0, 0, none⟩ = some (.int .i64 m)) (hfew : fewC [] l 20 = true) (hs : seatsB l = false) : Calls Tryz.prog 7 #[.slice A l.length c] w fun e w' => e = .returned (.bool true) ∧ Below w.heap.size w w' := by
 have la := (fewC_facts hfew).2.2.2.2
 have HS := Lib.hid hs; clear hs
 have HR := Lib.hid hr; clear hr
 have HFP := Lib.hid hfp; clear hfp
 have HG := Lib.hid hg; clear hg
 have HFEW := Lib.hid hfew; clear hfew
 go_enter Tryz.func7, Tryz.ntmps7
 go_wp2_with fail
 refine (head38_any _ m HG.out).mono ?_
 rintro e w1 ⟨rfl, hb1⟩
 have HB1 := Lib.hid hb1; clear hb1
 go_wp2_with fail
 refine (few0_at HFEW.out A c w1 (HR.out.below HB1.out) HFP.out).mono ?_
 rintro e w2 ⟨rfl, hb2⟩
 have HB2 := Lib.hid (chain2 HB1.out hb2); clear hb2
 go_wp2_with fail
 refine (properr_at HS.out A c w2 (HR.out.below HB2.out) (by omega)).mono ?_
 rintro e w3 ⟨rfl, hb3⟩
 have HB3 := Lib.hid (chain2 HB2.out hb3); clear hb3
 go_wp2_with fail
 go_ret
 exact ⟨rfl, HB3.out⟩
theorem alone_t (l : List Clause) (A : Option Addr) (c : Nat) (w : World) (m : Int) (hr : RdC w A l) (hl : l.length ≤ maxLen) (hfp : ∀ x ∈ l, x.patch.Fits) (hg : w.cell? ⟨0, 0, none⟩ = some (.int .i64 m)) (hfew : fewC [] l 20 = true) (hs : seatsB l = true) : Calls Tryz.prog 7 #[.slice A l.length c] w fun e w' => e = .returned (.bool true) ∧ Below w.heap.size w w' := by
 have la := (fewC_facts hfew).2.2.2.2
 obtain ⟨pgok, -, -⟩ := some_page hs (by omega)
 obtain ⟨al1, al2⟩ := some_alone hs (by omega)
 obtain ⟨Q, hQ⟩ : ∃ Q, Q = listP (putSome [] l) := ⟨_, rfl⟩
 have hQl : Q.length ≤ 12 := by rw [hQ, (listP_perm pgok).length_eq]; exact Nat.le_trans (some_len l) la
 rw [← hQ] at al1 al2
 have HPG := Lib.hid pgok; clear pgok
 have AL1 := Lib.hid al1; clear al1
 have AL2 := Lib.hid al2; clear al2
 have HQ := Lib.hid hQ; clear hQ
 have HS := Lib.hid hs; clear hs
 have HR := Lib.hid hr; clear hr
 have HFP := Lib.hid hfp; clear hfp
 have HG := Lib.hid hg; clear hg
 have HFEW := Lib.hid hfew; clear hfew
 go_enter Tryz.func7, Tryz.ntmps7
 go_wp2_with fail
 refine (head38_any _ m HG.out).mono ?_
 rintro e w1 ⟨rfl, hb1⟩
 have HB1 := Lib.hid hb1; clear hb1
 go_wp2_with fail
 refine (few0_at HFEW.out A c w1 (HR.out.below HB1.out) HFP.out).mono ?_
 rintro e w2 ⟨rfl, hb2⟩
 have HB2 := Lib.hid (chain2 HB1.out hb2); clear hb2
 go_wp2_with fail
 refine (properr_at HS.out A c w2 (HR.out.below HB2.out) (by omega)).mono ?_
 rintro e w3 ⟨rfl, hb3⟩
 have HB3 := Lib.hid (chain2 HB2.out hb3); clear hb3
 go_wp2_with fail
 refine (new_any w3).mono ?_
 rintro e w5 ⟨rfl, hp5, hm5, hs5, hb5⟩
 have HP5 := Lib.hid hp5; clear hp5
 have HM5 := Lib.hid hm5; clear hm5
 have HB5 := Lib.hid (chain2 HB3.out hb5); clear hb5
 have hs3 : w.heap.size ≤ w3.heap.size := HB3.out.size
 go_wp2_with fail
 go_loopw [5] (fun i wr => ∃ (k : Nat) (pg : List Clause), k ≤ l.length ∧ i = .int .i64 k ∧ putSome [] (l.take k) = pg ∧ CMap wr w3.heap.size pg ∧ w5.grownBy wr (some w3.heap.size)) (fun i _ => l.length - (intOf i).toNat)
 case atStart => exact ⟨0, [], Nat.zero_le _, rfl, rfl, HM5.out, ⟨rfl, rfl, rfl, Nat.le_refl _, fun _ _ _ => rfl⟩⟩
 case round =>
  obtain ⟨k, pg, hk, rfl, hput, hmap, hgr⟩ := hrel
  have hpl : pg.length ≤ 2000 := by
   have h := some_len (l.take k)
   rw [hput, List.length_take] at h
   omega
  have hsr := hgr.size
  have hbel : Below w.heap.size w wr := HB5.out.grown hgr HB5.out.size (fun b hb => by simp only [Option.some.injEq] at hb; omega)
  have hpc : wr.cell? ⟨w3.heap.size + 1, 0, none⟩ = some (.map (some w3.heap.size)) := by
   rw [← HP5.out]
   have e := hgr.block (w3.heap.size + 1) (by omega) (by simp)
   unfold World.cell?
   rw [e]
  have HBR := Lib.hid hbel; clear hbel
  have HGR := Lib.hid hgr; clear hgr
  have HPUT := Lib.hid hput; clear hput
  by_cases hlt : k < l.length
  · obtain ⟨x, hx⟩ := get_of_lt hlt
    have hi1 : (k : Int) < l.length := by omega
    have hi0 : (0 : Int) ≤ k := by omega
    obtain ⟨b, o, rfl, hbl, hq, _, _, _, _⟩ := (HR.out.below HBR.out).at hx
    have hnx := some_take hx
    rw [HPUT.out] at hnx
    have HNX := Lib.hid hnx; clear hnx hx
    have HCALL := Lib.hid (cput_any pg x (w3.heap.size + 1) w3.heap.size wr hpc (by omega) hmap (by omega)); clear hpc hmap
    obtain ⟨xi, xa, xp, xg⟩ := x
    go_wp2_with fail
    refine HCALL.out.mono ?_
    rintro e w6 ⟨rfl, hm6, hg6⟩
    rw [← HNX.out] at hm6
    have HM6 := Lib.hid hm6; clear hm6
    have HG6 := Lib.hid (HGR.out.trans hg6); clear hg6
    go_wp2_with fail
    refine ⟨⟨k + 1, _, by omega, by go_num, rfl, HM6.out, HG6.out⟩, by simp [intOf]; omega⟩
  · have hke : k = l.length := by omega
    have hi1 : ¬ (k : Int) < l.length := by omega
    subst hke
    have hput := HPUT.out
    rw [List.take_length] at hput
    subst hput
    have hcall := list_any (putSome [] l) HPG.out (by omega) (w3.heap.size + 1) w3.heap.size wr hpc (by omega) hmap
    rw [← HQ.out] at hcall
    have HCALL := Lib.hid hcall
    clear hcall hpc hmap HPUT
    go_wp2_with fail
    refine HCALL.out.mono ?_
    rintro e w6 ⟨v6, rfl, ho6, hb6⟩
    have HB6 := Lib.hid (chain2 HBR.out hb6); clear hb6
    obtain ⟨A6, c6, rfl, _, _, hr6⟩ := ho6.reads
    have HR6 := Lib.hid hr6; clear hr6 ho6
    go_wp2_with fail
    refine (join_at AL1.out Q.length 0 rfl rfl A6 none c6 0 w6 (by omega) HR6.out (rdc_nil _)).mono ?_
    rintro e w7 ⟨v7, rfl, ho7, hb7⟩
    have HR67 := Lib.hid (HR6.out.below hb7); clear HR6
    have HB7 := Lib.hid (chain2 HB6.out hb7); clear hb7
    obtain ⟨A7, c7, rfl, _, _, hr7⟩ := ho7.reads
    have HR7 := Lib.hid hr7; clear hr7 ho7
    go_wp2_with fail
    refine (join_at AL1.out Q.length 0 rfl rfl A7 none c7 0 w7 (by omega) HR7.out (rdc_nil _)).mono ?_
    rintro e w8 ⟨v8, rfl, ho8, hb8⟩
    have HR68 := Lib.hid (HR67.out.below hb8); clear HR67
    have HR78 := Lib.hid (HR7.out.below hb8); clear HR7
    have HB8 := Lib.hid (chain2 HB7.out hb8); clear hb8
    obtain ⟨A8, c8, rfl, _, _, hr8⟩ := ho8.reads
    have HR8 := Lib.hid hr8; clear hr8 ho8
    have hba : Below w8.heap.size w8 (w8.alloc (.cells #[] 51)) := (Below.refl _ _).alloc (Nat.le_refl _) _
    have HE0 := Lib.hid (OwnCs.empty (base := w8.heap.size) (heap_alloc_new w8 (.cells #[] 51)) (Nat.le_refl _))
    have HRA := Lib.hid (HR68.out.below hba)
    have HBA := Lib.hid hba; clear hba
    go_wp2_with (first
     | (at_builtin; refine wpList_append_clas rfl (.tmp 50) (.tmp 51) rfl rfl w8.heap.size _ [] Q A6 Q.length c6 rfl rfl rfl HE0.out HRA.out (by simp; omega) HBA.out.size ?_; intro v9 w9 ho9 hg9
        have hb9 := HBA.out.grown hg9 HBA.out.size HE0.out.ge
        have HR69 := Lib.hid (HR68.out.below hb9)
        have HO9 := Lib.hid ho9
        have HB9 := Lib.hid hb9
        clear ho9 hg9 hb9 HRA HE0 HBA)
     | (at_builtin; refine wpList_append_clas rfl (.tmp 52) (.tmp 53) rfl rfl w8.heap.size _ Q Q A6 Q.length c6 rfl rfl rfl HO9.out HR69.out (by omega) HB9.out.size ?_; intro v10 w10 ho10 hg10))
    have hb10 := HB9.out.grown hg10 HB9.out.size HO9.out.ge
    have HR610 := Lib.hid (HR68.out.below hb10); clear HR69
    have HR710 := Lib.hid (HR78.out.below hb10)
    have HR810 := Lib.hid (HR8.out.below hb10)
    have HB10 := Lib.hid (chain2 HB8.out hb10); clear hb10 hg10 HO9 HB9
    obtain ⟨A10, c10, rfl, _, _, hr10⟩ := ho10.reads
    have HR10 := Lib.hid hr10; clear hr10 ho10
    rw [List.length_append]
    go_wp2_with fail
    refine (join_at AL2.out (Q.length + Q.length) 0 List.length_append.symm rfl A10 none c10 0 w10 (by omega) HR10.out (rdc_nil _)).mono ?_
    rintro e w11 ⟨v11, rfl, ho11, hb11⟩
    have HR6b := Lib.hid (HR610.out.below hb11); clear HR610
    have HR7b := Lib.hid (HR710.out.below hb11); clear HR710
    have HR8b := Lib.hid (HR810.out.below hb11); clear HR810
    have HB11 := Lib.hid (chain2 HB10.out hb11); clear hb11
    obtain ⟨A11, c11, rfl, _, _, hr11⟩ := ho11.reads
    have HR11 := Lib.hid hr11; clear hr11 ho11
    go_wp2_with fail
    refine (same36_refl A7 A6 _ _ c7 c6 w11 rfl rfl HR7b.out HR6b.out (by omega)).mono ?_
    rintro e w12 ⟨rfl, hb12⟩
    have HR6c := Lib.hid (HR6b.out.below hb12); clear HR6b
    have HR8c := Lib.hid (HR8b.out.below hb12); clear HR8b
    have HR11c := Lib.hid (HR11.out.below hb12); clear HR11
    have HB12 := Lib.hid (chain2 HB11.out hb12); clear hb12
    go_wp2_with fail
    refine (same36_refl A8 A6 _ _ c8 c6 w12 rfl rfl HR8c.out HR6c.out (by omega)).mono ?_
    rintro e w13 ⟨rfl, hb13⟩
    have HR6d := Lib.hid (HR6c.out.below hb13); clear HR6c
    have HR11d := Lib.hid (HR11c.out.below hb13); clear HR11c
    have HB13 := Lib.hid (chain2 HB12.out hb13); clear hb13
    go_wp2_with fail
    refine (same36_refl A11 A6 _ _ c11 c6 w13 rfl rfl HR11d.out HR6d.out (by omega)).mono ?_
    rintro e w14 ⟨rfl, hb14⟩
    have HB14 := Lib.hid (chain2 HB13.out hb14); clear hb14
    go_wp2_with fail
    go_ret
    exact ⟨rfl, HB14.out⟩
theorem alone_law (l : List Clause) (A : Option Addr) (c : Nat) (w : World) (m : Int) (hr : RdC w A l) (hl : l.length ≤ maxLen) (hfp : ∀ x ∈ l, x.patch.Fits) (hg : w.cell? ⟨0, 0, none⟩ = some (.int .i64 m)) : Calls Tryz.prog 7 #[.slice A l.length c] w fun e w' => e = .returned (.bool true) ∧ Below w.heap.size w w' := by
 cases hfew : fewC [] l 20 with
 | false => exact alone_f l A c w m hr hl hfp hg hfew
 | true =>
   cases hs : seatsB l with
   | false => exact alone_p l A c w m hr hl hfp hg hfew hs
   | true => exact alone_t l A c w m hr hl hfp hg hfew hs
end Go.Proofs.YtecnlfaholmpoaaGreat
