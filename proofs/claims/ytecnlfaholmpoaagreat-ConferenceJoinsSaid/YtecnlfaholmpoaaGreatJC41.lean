/- The law ConferenceOrder. pandectref38.Proper: the seats of clauses are those of a chamber. -/
import Derived.Test.YtecnlfaholmpoaaGreatJC40
import Derived.Test.YtecnlfaholmpoaaGreatJC38
import Derived.Test.YtecnlfaholmpoaaGreatJC37
set_option linter.unusedVariables false
set_option linter.unusedSimpArgs false
set_option maxRecDepth 20000
set_option maxHeartbeats 4000000
namespace Go.Proofs.YtecnlfaholmpoaaGreat
open Go.RowKit
theorem same36_refl {xs : List Clause} (A B : Option Addr) (n k c d : Nat) (w : World) (hn : n = xs.length) (hk : k = xs.length) (hr : RdC w A xs) (hs : RdC w B xs) (hl : xs.length ≤ 1000) :
 Calls Tryz.prog 14 #[.slice A n c, .slice B k d] w fun e w' => e = .returned (.bool true) ∧ Below w.heap.size w w' := by
 subst hn hk
 refine (same36_any xs xs A B c d w hr hs hl hl).mono ?_
 rintro e w' ⟨r, rfl, hr, hb⟩
 exact ⟨by rw [hr.2 rfl], hb⟩
theorem order_f (a : List Clause) (A : Option Addr) (c : Nat) (b : List Clause) (B : Option Addr) (d : Nat) (w : World) (m : Int) (ha : RdC w A a) (hla : a.length ≤ maxLen) (hfa : ∀ x ∈ a, x.patch.Fits) (hb : RdC w B b) (hlb : b.length ≤ maxLen) (hfb : ∀ x ∈ b, x.patch.Fits) (hg : w.cell? ⟨0, 0, none⟩ = some (.int .i64 m)) (hfew : (fewC [] a 20 && fewC [] b 20) = false) : Calls Tryz.prog 4 #[.slice A a.length c, .slice B b.length d] w fun e w' => e = .returned (.bool true) ∧ Below w.heap.size w w' := by
 have HA := Lib.hid ha; clear ha
 have HB := Lib.hid hb; clear hb
 have HFA := Lib.hid hfa; clear hfa
 have HFB := Lib.hid hfb; clear hfb
 have HG := Lib.hid hg; clear hg
 have HFEW := Lib.hid hfew; clear hfew
 go_enter Tryz.func4, Tryz.ntmps4
 go_wp2_with fail
 refine (head38_any _ m HG.out).mono ?_
 rintro e w1 ⟨rfl, hb1⟩
 have HB1 := Lib.hid hb1; clear hb1
 go_wp2_with fail
 refine (fewp_at HFEW.out none A B 0 c d 0 w1 rfl (rdi_nil _) (HA.out.below HB1.out) (HB.out.below HB1.out) (by decide) (by simp) HFA.out HFB.out).mono ?_
 rintro e w2 ⟨rfl, hb2⟩
 have HB2 := Lib.hid (chain2 HB1.out hb2); clear hb2
 go_wp2_with fail
 go_ret
 exact ⟨rfl, HB2.out⟩
theorem order_t (a : List Clause) (A : Option Addr) (c : Nat) (b : List Clause) (B : Option Addr) (d : Nat) (w : World) (m : Int) (ha : RdC w A a) (hla : a.length ≤ maxLen) (hfa : ∀ x ∈ a, x.patch.Fits) (hb : RdC w B b) (hlb : b.length ≤ maxLen) (hfb : ∀ x ∈ b, x.patch.Fits) (hg : w.cell? ⟨0, 0, none⟩ = some (.int .i64 m)) (hfew : (fewC [] a 20 && fewC [] b 20) = true) : Calls Tryz.prog 4 #[.slice A a.length c, .slice B b.length d] w fun e w' => e = .returned (.bool true) ∧ Below w.heap.size w w' := by
 have hf := hfew
 rw [Bool.and_eq_true] at hf
 have la := (fewC_facts hf.1).2.2.2.2
 have lb := (fewC_facts hf.2).2.2.2.2
 clear hf
 have HA := Lib.hid ha; clear ha
 have HB := Lib.hid hb; clear hb
 have HFA := Lib.hid hfa; clear hfa
 have HFB := Lib.hid hfb; clear hfb
 have HG := Lib.hid hg; clear hg
 have HFEW := Lib.hid hfew; clear hfew
 go_enter Tryz.func4, Tryz.ntmps4
 go_wp2_with fail
 refine (head38_any _ m HG.out).mono ?_
 rintro e w1 ⟨rfl, hb1⟩
 have HB1 := Lib.hid hb1; clear hb1
 go_wp2_with fail
 refine (fewp_at HFEW.out none A B 0 c d 0 w1 rfl (rdi_nil _) (HA.out.below HB1.out) (HB.out.below HB1.out) (by decide) (by simp) HFA.out HFB.out).mono ?_
 rintro e w2 ⟨rfl, hb2⟩
 have HB2 := Lib.hid (chain2 HB1.out hb2); clear hb2
 go_wp2_with fail
 refine (twice_any a A c w2 (HA.out.below HB2.out) (by omega)).mono ?_
 rintro e w3 ⟨r, rfl, hna, hb3⟩
 have HB3 := Lib.hid (chain2 HB2.out hb3); clear hb3
 cases r with
 | true =>
   go_wp2_with fail
   go_ret
   exact ⟨rfl, HB3.out⟩
 | false =>
   have HNA := Lib.hid (hna rfl); clear hna
   go_wp2_with fail
   refine (twice_any b B d w3 (HB.out.below HB3.out) (by omega)).mono ?_
   rintro e w4 ⟨r, rfl, hnb, hb4⟩
   have HB4 := Lib.hid (chain2 HB3.out hb4); clear hb4
   cases r with
   | true =>
     go_wp2_with fail
     go_ret
     exact ⟨rfl, HB4.out⟩
   | false =>
     have HNB := Lib.hid (hnb rfl); clear hnb
     go_wp2_with fail
     obtain ⟨J, hJ⟩ : ∃ J, joinF a b = J := ⟨_, rfl⟩
     have hJ2 : joinF a.reverse b.reverse = J := by
      rw [← hJ]
      exact (join_order (List.reverse_perm a).symm (List.reverse_perm b).symm HNA.out HNB.out).symm
     have hJl : J.1.length ≤ 1000 := by have := join_len a b; rw [hJ] at this; omega
     have HJ := Lib.hid hJ; clear hJ
     have HJ2 := Lib.hid hJ2; clear hJ2
     refine (join_at HJ.out a.length b.length rfl rfl A B c d w4 (by omega) (HA.out.below HB4.out) (HB.out.below HB4.out)).mono ?_
     rintro e w5 ⟨v5, rfl, ho5, hb5⟩
     have HB5 := Lib.hid (chain2 HB4.out hb5); clear hb5
     obtain ⟨A5, c5, rfl, _, _, hr5⟩ := ho5.reads
     have HR5 := Lib.hid hr5; clear hr5 ho5
     go_wp2_with fail
     refine (turned_any a A c w5 (HA.out.below HB5.out) (by omega)).mono ?_
     rintro e w6 ⟨v6, rfl, ho6, hb6⟩
     have HR56 := Lib.hid (HR5.out.below hb6); clear HR5
     have HB6 := Lib.hid (chain2 HB5.out hb6); clear hb6
     obtain ⟨A6, c6, rfl, _, _, hr6⟩ := ho6.reads
     have HR6 := Lib.hid hr6; clear hr6 ho6
     go_wp2_with fail
     refine (turned_any b B d w6 (HB.out.below HB6.out) (by omega)).mono ?_
     rintro e w7 ⟨v7, rfl, ho7, hb7⟩
     have HR57 := Lib.hid (HR56.out.below hb7); clear HR56
     have HR67 := Lib.hid (HR6.out.below hb7); clear HR6
     have HB7 := Lib.hid (chain2 HB6.out hb7); clear hb7
     obtain ⟨A7, c7, rfl, _, _, hr7⟩ := ho7.reads
     have HR7 := Lib.hid hr7; clear hr7 ho7
     rw [List.length_reverse]
     go_wp2_with fail
     refine (join_at HJ2.out a.length b.length List.length_reverse.symm List.length_reverse.symm A6 A7 c6 c7 w7 (by omega) HR67.out HR7.out).mono ?_
     rintro e w8 ⟨v8, rfl, ho8, hb8⟩
     have HR58 := Lib.hid (HR57.out.below hb8); clear HR57
     have HB8 := Lib.hid (chain2 HB7.out hb8); clear hb8
     obtain ⟨A8, c8, rfl, _, _, hr8⟩ := ho8.reads
     have HR8 := Lib.hid hr8; clear hr8 ho8
     go_wp2_with fail
     refine (same36_refl A5 A8 _ _ c5 c8 w8 rfl rfl HR58.out HR8.out hJl).mono ?_
     rintro e w9 ⟨rfl, hb9⟩
     have HB9 := Lib.hid (chain2 HB8.out hb9); clear hb9
     go_wp2_with fail
     go_ret
     exact ⟨rfl, HB9.out⟩
theorem order38_law (a : List Clause) (A : Option Addr) (c : Nat) (b : List Clause) (B : Option Addr) (d : Nat) (w : World) (m : Int) (ha : RdC w A a) (hla : a.length ≤ maxLen) (hfa : ∀ x ∈ a, x.patch.Fits) (hb : RdC w B b) (hlb : b.length ≤ maxLen) (hfb : ∀ x ∈ b, x.patch.Fits) (hg : w.cell? ⟨0, 0, none⟩ = some (.int .i64 m)) : Calls Tryz.prog 4 #[.slice A a.length c, .slice B b.length d] w fun e w' => e = .returned (.bool true) ∧ Below w.heap.size w w' := by
 cases hfew : (fewC [] a 20 && fewC [] b 20) with
 | false => exact order_f a A c b B d w m ha hla hfa hb hlb hfb hg hfew
 | true => exact order_t a A c b B d w m ha hla hfa hb hlb hfb hg hfew
end Go.Proofs.YtecnlfaholmpoaaGreat
set_option maxRecDepth 20000
set_option maxHeartbeats 4000000
namespace Go.Proofs.YtecnlfaholmpoaaGreat
open Go.RowKit
theorem seatr_any (n : Int) (w : World) : Calls Tryz.prog 67 #[.int .i64 n] w fun e w' => e = .returned (.bool (seat n)) ∧ Below w.heap.size w w' := by
 by_cases h1 : 0 ≤ n
 · by_cases h2 : n ≤ 99
   · have hs : seat n = true := by unfold seat; simp; omega
     rw [hs]
     have h3 : ¬ n < 0 := by omega
     go_enter Tryz.func67, Tryz.ntmps67
     go_wp2_with fail
     go_ret
     exact ⟨rfl, Below.refl _ _⟩
   · have hs : seat n = false := by unfold seat; simp; omega
     rw [hs]
     go_enter Tryz.func67, Tryz.ntmps67
     go_wp2_with fail
     go_ret
     exact ⟨rfl, Below.refl _ _⟩
 · have hs : seat n = false := by unfold seat; simp; omega
   rw [hs]
   go_enter Tryz.func67, Tryz.ntmps67
   go_wp2_with fail
   go_ret
   exact ⟨rfl, Below.refl _ _⟩
theorem seatr_at {n : Int} {q : Bool} (h : seat n = q) (w : World) : Calls Tryz.prog 67 #[.int .i64 n] w fun e w' => e = .returned (.bool q) ∧ Below w.heap.size w w' := by
 subst h
 exact seatr_any n w
theorem RdC.afterAt {w : World} {b o : Nat} {l : List Clause} (h : RdC w (some ⟨b, o, none⟩) l) {k : Nat} {p : Clause} (hp : l[k]? = some p) : w.cell? ⟨b, o + k * 20 + 2, none⟩ = some (.int .i64 p.after.seat) ∧ w.cell? ⟨b, o + k * 20 + 3, none⟩ = some (.int .i64 p.after.count) := by
 obtain ⟨b', o', hA, hlt, hc⟩ := h (by rintro rfl; simp at hp)
 cases hA
 exact ⟨hc k p hp 2 _ rfl, hc k p hp 3 _ rfl⟩
def seatOk (c : Clause) : Bool := seat c.id.seat && (decide (c.after = noStamp) || seat c.after.seat)
theorem seats_step {l : List Clause} {k : Nat} {x : Clause} (h : seatsB (l.take k) = true) (hx : l[k]? = some x) (h2 : seatOk x = true) : seatsB (l.take (k + 1)) = true := by
 unfold seatsB at *
 rw [List.take_add_one, hx, List.all_append, h]
 simpa [seatOk] using h2
theorem seats_badx {l : List Clause} {k : Nat} {x : Clause} (hx : l[k]? = some x) (h2 : seatOk x = false) : seatsB l = false := by
 cases h : seatsB l with
 | false => rfl
 | true =>
   unfold seatsB at h
   rw [List.all_eq_true] at h
   have := h x (List.mem_of_getElem? hx)
   unfold seatOk at h2
   rw [this] at h2
   cases h2
theorem properr_any (l : List Clause) (A : Option Addr) (c : Nat) (w : World) (hr : RdC w A l) (hl : l.length ≤ 1000) :
 Calls Tryz.prog 29 #[.slice A l.length c] w fun e w' => e = .returned (.bool (seatsB l)) ∧ Below w.heap.size w w' := by
 have HR := Lib.hid hr; clear hr
 obtain ⟨q, hq⟩ : ∃ q, seatsB l = q := ⟨_, rfl⟩
 rw [hq]
 have HQ := Lib.hid hq; clear hq
 go_enter Tryz.func29, Tryz.ntmps29
 go_wp2_with fail
 go_loopw [3] (fun v wr => ∃ k : Nat, k ≤ l.length ∧ v = .int .i64 k ∧ seatsB (l.take k) = true ∧ Below w.heap.size w wr) (fun v _ => l.length - (intOf v).toNat)
 case atStart => exact ⟨0, Nat.zero_le _, rfl, rfl, Below.refl _ _⟩
 case round =>
  obtain ⟨k, hk, rfl, hp, hb⟩ := hrel
  have HP := Lib.hid hp; clear hp
  have HB := Lib.hid hb; clear hb
  by_cases hlt : k < l.length
  · obtain ⟨x, hx⟩ := get_of_lt hlt
    have hi1 : (k : Int) < l.length := by omega
    have hi0 : (0 : Int) ≤ k := by omega
    have hrw := HR.out.below HB.out
    obtain ⟨b, o, rfl, hbl, q1, q2, c0, c1, c2⟩ := hrw.at hx
    obtain ⟨f0, f1⟩ := hrw.afterAt hx
    have HRW := Lib.hid hrw; clear hrw q1 q2 c2
    have HX := Lib.hid hx; clear hx
    cases hs : seat x.id.seat with
    | false =>
      have hbad := seats_badx HX.out (show seatOk x = false by unfold seatOk; rw [hs]; rfl)
      rw [HQ.out] at hbad
      have HBAD := Lib.hid hbad; clear hbad
      have HS := Lib.hid hs; clear hs
      go_wp2_with fail
      refine (seatr_at HS.out _).mono ?_
      rintro e w1 ⟨rfl, hb1⟩
      have HB1 := Lib.hid (chain2 HB.out hb1); clear hb1
      go_wp2_with fail
      go_ret
      exact ⟨by rw [HBAD.out]; rfl, HB1.out⟩
    | true =>
      have HS := Lib.hid hs
      go_wp2_with fail
      refine (seatr_at HS.out _).mono ?_
      rintro e w1 ⟨rfl, hb1⟩
      have HRW1 := Lib.hid (HRW.out.below hb1)
      have HB1 := Lib.hid (chain2 HB.out hb1); clear hb1 c0 c1 f0 f1
      obtain ⟨f0, f1⟩ := HRW1.out.afterAt HX.out
      have hbl1 := World.block_lt_of_cell? _ _ f0
      cases ha : sEq x.after.seat x.after.count 0 0 with
      | true =>
        have hok : seatOk x = true := by
         have e : x.after = noStamp := by rw [sEq_iff (b := noStamp)] at ha; simpa using ha
         unfold seatOk; rw [hs, e]; rfl
        have HOK := Lib.hid hok; clear hok hs HS
        go_wp2_with fail
        exact ⟨⟨k + 1, by omega, by go_num, seats_step HP.out HX.out HOK.out, HB1.out⟩, by simp [intOf]; omega⟩
      | false =>
        have hno : x.after ≠ noStamp := by intro e; rw [sEq_iff (b := noStamp)] at ha; simp [e] at ha
        cases hs2 : seat x.after.seat with
        | true =>
          have hok : seatOk x = true := by unfold seatOk; rw [hs, hs2]; simp
          have HOK := Lib.hid hok; clear hok hs HS hno
          have HS2 := Lib.hid hs2; clear hs2
          go_wp2_with fail
          refine (seatr_at HS2.out _).mono ?_
          rintro e w2 ⟨rfl, hb2⟩
          have HB2 := Lib.hid (chain2 HB1.out hb2); clear hb2
          go_wp2_with fail
          exact ⟨⟨k + 1, by omega, by go_num, seats_step HP.out HX.out HOK.out, HB2.out⟩, by simp [intOf]; omega⟩
        | false =>
          have hbad := seats_badx HX.out (show seatOk x = false by unfold seatOk; rw [hs, hs2]; simpa using hno)
          rw [HQ.out] at hbad
          have HBAD := Lib.hid hbad; clear hbad hs HS hno
          have HS2 := Lib.hid hs2; clear hs2
          go_wp2_with fail
          refine (seatr_at HS2.out _).mono ?_
          rintro e w2 ⟨rfl, hb2⟩
          have HB2 := Lib.hid (chain2 HB1.out hb2); clear hb2
          go_wp2_with fail
          go_ret
          exact ⟨by rw [HBAD.out]; rfl, HB2.out⟩
  · have hke : k = l.length := by omega
    have hi1 : ¬ (k : Int) < l.length := by omega
    subst hke
    have hp := HP.out
    rw [List.take_length, HQ.out] at hp
    have HQT := Lib.hid hp; clear hp
    go_wp2_with fail
    go_ret
    exact ⟨by rw [HQT.out]; rfl, HB.out⟩
end Go.Proofs.YtecnlfaholmpoaaGreat
