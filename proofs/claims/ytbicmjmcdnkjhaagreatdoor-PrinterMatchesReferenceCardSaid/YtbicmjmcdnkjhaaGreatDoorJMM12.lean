/- (*southern).south writes a formula. (*southern).start writes a condition. The key words, sought between blanks. -/
import Derived.Test.YtbicmjmcdnkjhaaGreatDoorJMM1
import Derived.Test.YtbicmjmcdnkjhaaGreatDoorJMM11
import Derived.Deep.CutRange
import Derived.StillTailTactics
import Derived.Deep.RegionHeld3
import Derived.Deep.DrawnRows
import Derived.Lib.IndexMore
set_option linter.unusedVariables false
set_option linter.unusedSimpArgs false
set_option maxRecDepth 20000
set_option maxHeartbeats 16000000
namespace Go.Proofs.YtbicmjmcdnkjhaaGreatDoor
open Go.RowKit
attribute [local go_sem ↓] Go.wp_at_zero Go.wp_at_succ
/- the box of a call that writes -/
structure SB (W w0 wc : World) (p : Nat) (T : TypeId) (S0 S : Nat → Prop) (L N : List (List UInt8)) (bf : Nat) (Tf : TypeId) (C : Array Value) : Prop where
 wr : Wr W wc p T S L N
 fr : WrFr S0 S w0 wc
 bx : wc.heap[bf]? = some (.cells C Tf (0, 0))
 nb : ¬ S bf
theorem SB.step {W w0 wc w' : World} {p : Nat} {T : TypeId} {S0 S S' : Nat → Prop} {L N L' N' : List (List UInt8)} {bf : Nat} {Tf : TypeId} {C : Array Value} (h : SB W w0 wc p T S0 S L N bf Tf C) (hw : Wr W w' p T S' L' N') (hf : WrFr S S' wc w') : SB W w0 w' p T S0 S' L' N' bf Tf C :=
 ⟨hw, h.fr.trans hf, (hf.box h.bx h.nb).1, (hf.box h.bx h.nb).2⟩
theorem SB.alloc {W w0 wc : World} {p : Nat} {T : TypeId} {S0 S : Nat → Prop} {L N : List (List UInt8)} {bf : Nat} {Tf : TypeId} {C : Array Value} (h : SB W w0 wc p T S0 S L N bf Tf C) (o : Obj) : SB W w0 (wc.alloc o) p T S0 S L N bf Tf C :=
 h.step (h.wr.alloc o) ((WrFr.refl S wc).alloc o)
theorem SB.start {W w : World} {p : Nat} {T : TypeId} {S : Nat → Prop} {L N : List (List UInt8)} {Tf : TypeId} {C : Array Value} (h : Wr W w p T S L N) : SB W w (w.alloc (.cells C Tf)) p T S S L N w.heap.size Tf C :=
 ⟨h.alloc _, (WrFr.refl S w).alloc _, new_at rfl, h.fresh⟩
theorem SB.post {W w0 wc : World} {p : Nat} {T : TypeId} {S0 S : Nat → Prop} {L N L' N' : List (List UInt8)} {bf : Nat} {Tf : TypeId} {C : Array Value} (h : SB W w0 wc p T S0 S L N bf Tf C) (hl : L = L') (hn : N = N') : WrPost W w0 p T S0 L' N' (.returned (.tuple #[])) wc := by
 subst hl hn
 exact ⟨rfl, S, h.wr, h.fr⟩
theorem many_w (W w : World) (p : Nat) (T : TypeId) (S : Nat → Prop) (L N : List (List UInt8)) (s : List UInt8) (n : Nat) (h : Wr W w p T S L N) (hn : n ≤ 10000000) (hlen : L.length + 2 ≤ 1000000) (ht : Tabs W) :
 Calls Tryz.prog 45 #[.pointer (some ⟨p, 0, none⟩), vs s, .int .i64 (n : Int)] w (WrPost W w p T S (L ++ [s, dec n]) N) := by
 have H := Hi h
 have HT := Hi ht
 clear h ht
 go_enter Tryz.func45, Tryz.ntmps45
 go_wp2_with fail
 refine (word_w W _ p T S L N s _ rfl H.out (by omega)).mono ?_
 rintro e w1 ⟨rfl, S1, hw1, hf1⟩
 have HW1 := Hi hw1
 have HF1 := Hi hf1
 clear hw1 hf1
 go_wp2_with fail
 refine (number_w W _ p T S1 (L ++ [s]) N n HW1.out hn (by simp; omega) HT.out).mono ?_
 rintro e w2 ⟨rfl, S2, hw2, hf2⟩
 have HW2 := Hi hw2
 have HF2 := Hi hf2
 clear hw2 hf2
 go_wp2_with fail
 go_end0
 exact ⟨rfl, S2, by have := HW2.out; simpa using this, HF1.out.trans HF2.out⟩
def lastF (op : Nat) (name : Bytes) (cmp n l : Nat) : List Bytes := if op = 1 then [[121, 101, 115]] else if op = 2 then [[110, 111]]
 else if op = 3 then [name, dec n, So.cmpW.getD (cmp - 1) []] else if op = 4 then [name, [100, 101, 102, 105, 110, 101, 100]]
 else if op = 5 then [[110, 101, 103, 97, 116, 101, 100]]
 else if op = 6 then [So.wAll, dec l] else if op = 7 then [So.wAny, dec l] else []
theorem own_last {op : Nat} {name : Bytes} {cm m : Nat} {ks : List Tree} (h : shapeF (.mk op name cm m ks) = true) : namesF (.mk op name cm m ks) = namesFs ks ++ ownF op name := by
 obtain ⟨-, -, h3, -⟩ := shapeF_op h
 rw [namesF]
 unfold ownF
 rcases h3 with rfl | h3
 · simp [namesFs]
 · rw [if_neg (by omega)]; simp
theorem south_any (W : World) (ht : Tabs W) : ∀ (M : Nat) (t : Tree) (cs : List Value) (w : World) (p : Nat) (T : TypeId) (S : Nat → Prop) (L N : List Bytes), t.size ≤ M → shapeF t = true → L.length + 6 * t.size ≤ 900000 → N.length + t.size ≤ 900000 → RdX true W cs (up t) → Wr W w p T S L N →
 Calls Tryz.prog 44 #[.pointer (some ⟨p, 0, none⟩), .agg cs.toArray] w (WrPost W w p T S (L ++ So.wF t) (N ++ namesF t)) := by
 intro M
 induction M with
 | zero =>
   intro t cs w p T S L N hM
   have := tree_pos t
   omega
 | succ M ih =>
   intro t cs w p T S L N hM hs hl1 hl2 hr hw
   have IH := Hi ih
   obtain ⟨op, name, cm, m, ks⟩ := t
   rw [up] at hr
   obtain ⟨A1, p1, rfl, -, hk1⟩ := hr
   have HK := Hi hk1
   rw [ups_len] at *
   have hkn := len_sizes ks
   simp only [Tree.size] at hM hl1 hl2
   simp only [tcX]
   obtain ⟨oi, hoi⟩ : ∃ oi : Int, (op : Int) = oi := ⟨_, rfl⟩
   rw [hoi]
   have HSB : Hid (SB W w (w.alloc (.cells #[.int .i64 oi, vs name, .int .i64 (cm : Int), .int .i64 (m : Int), .slice A1 ks.length p1] 24)) p T S S L N w.heap.size 24 #[.int .i64 oi, vs name, .int .i64 (cm : Int), .int .i64 (m : Int), .slice A1 ks.length p1]) := Hi (SB.start hw)
   obtain ⟨s1, s2, s3, s4⟩ := shapeF_op hs
   have HS2 := Hi s2
   have HS3 := Hi s3
   have HS4 := Hi s4
   have HWF : Hid (So.wF (.mk op name cm m ks) = So.wFs ks ++ lastF op name cm m ks.length) := Hi (by rw [So.wF]; rfl)
   have HNF := Hi (own_last hs)
   have HT := Hi ht
   have hop : (op = 1 ∧ oi = 1) ∨ (op = 2 ∧ oi = 2) ∨ (op = 3 ∧ oi = 3) ∨ (op = 4 ∧ oi = 4) ∨ (op = 5 ∧ oi = 5) ∨ (op = 6 ∧ oi = 6) ∨ (op = 7 ∧ oi = 7) := by omega
   have HOP := Hi hop
   clear ih hk1 hs hw ht s1 s2 s3 s4 hoi hop
   go_enter Tryz.func44, Tryz.ntmps44
   go_wp2_with fail
   go_loopw [9] (fun v wr => ∃ k : Nat, k ≤ ks.length ∧ v = .int .i64 k ∧ ∃ S', SB W w wr p T S S' (L ++ So.wFs (ks.take k)) (N ++ namesFs (ks.take k)) w.heap.size 24 #[.int .i64 oi, vs name, .int .i64 (cm : Int), .int .i64 (m : Int), .slice A1 ks.length p1]) (fun v _ => ks.length - (intOf v).toNat)
   case atStart => exact ⟨0, Nat.zero_le _, rfl, S, by have := HSB.out; simpa [So.wFs, namesFs] using this⟩
   case round =>
    obtain ⟨k, hk, rfl, S1, hnb1⟩ := hrel
    have HN1 := Hi hnb1
    have HBW := Hi hnb1.wr.below
    have x1 := lHp hnb1.bx
    clear hnb1
    by_cases hlt : k < ks.length
    · obtain ⟨t, ht⟩ := gLt hlt
      have HTK := Hi ht
      have hne : ks ≠ [] := by rintro rfl; simp at hlt
      have hne' : ups ks ≠ [] := by
       intro e
       have := congrArg List.length e
       rw [ups_len] at this
       simp at this
       exact hne this
      obtain ⟨b, q, rfl, hbl, hkd⟩ := HK.out.resolve_left hne'
      obtain ⟨cs, hc, hrx⟩ := hkd.kids ht
      have hst := size_of_kid ht
      have hsk := shapeFs_get HS4.out ht
      have hpl := So.wFs_le (ks.take k)
      have hpn := namesFs_le (ks.take k)
      have HSK := Hi hsk
      have HRX := Hi hrx
      obtain ⟨o1, n1, c1, m1, k1⟩ := t
      rw [up] at hrx
      obtain ⟨B1, q1, rfl, -, -⟩ := hrx
      rw [ups_len] at hc HRX
      obtain ⟨kl, hkl⟩ : ∃ kl, k1.length = kl := ⟨_, rfl⟩
      obtain ⟨i1, hi1⟩ : ∃ i1 : Int, (o1 : Int) = i1 := ⟨_, rfl⟩
      obtain ⟨ci, hci⟩ : ∃ ci : Int, (c1 : Int) = ci := ⟨_, rfl⟩
      obtain ⟨mi, hmi⟩ : ∃ mi : Int, (m1 : Int) = mi := ⟨_, rfl⟩
      have HUP : Hid (tcX true (o1 : Int) n1 (c1 : Int) (m1 : Int) (.slice B1 k1.length q1) = [.int .i64 i1, vs n1, .int .i64 ci, .int .i64 mi, .slice B1 kl q1]) := Hi (by rw [hkl, hi1, hci, hmi]; rfl)
      rw [HUP.out] at hc HRX
      have z0 : wr.cell? ⟨b, q + k * 5, none⟩ = some (.int .i64 i1) := (HBW.out.cell (p := ⟨b, q + k * 5, none⟩) hbl).trans (hc 0 _ rfl)
      have z1 : wr.cell? ⟨b, q + k * 5 + 1, none⟩ = some (vs n1) := (HBW.out.cell (p := ⟨b, q + k * 5 + 1, none⟩) hbl).trans (hc 1 _ rfl)
      have z2 : wr.cell? ⟨b, q + k * 5 + 2, none⟩ = some (.int .i64 ci) := (HBW.out.cell (p := ⟨b, q + k * 5 + 2, none⟩) hbl).trans (hc 2 _ rfl)
      have z3 : wr.cell? ⟨b, q + k * 5 + 3, none⟩ = some (.int .i64 mi) := (HBW.out.cell (p := ⟨b, q + k * 5 + 3, none⟩) hbl).trans (hc 3 _ rfl)
      have z4 : wr.cell? ⟨b, q + k * 5 + 4, none⟩ = some (.slice B1 kl q1) := (HBW.out.cell (p := ⟨b, q + k * 5 + 4, none⟩) hbl).trans (hc 4 _ rfl)
      have hk1 : (k : Int) < ks.length := by omega
      have hk0 : (0 : Int) ≤ k := by omega
      have hbl' : b < wr.heap.size := by have := HBW.out.size; omega
      have HREC := Hi (IH.out (.mk o1 n1 c1 m1 k1) [.int .i64 i1, vs n1, .int .i64 ci, .int .i64 mi, .slice B1 kl q1] (wr.alloc (.cells #[.int .i64 i1, vs n1, .int .i64 ci, .int .i64 mi, .slice B1 kl q1] 24)) p T S1 (L ++ So.wFs (ks.take k)) (N ++ namesFs (ks.take k)) (by omega) HSK.out (by simp only [List.length_append]; omega) (by simp only [List.length_append]; omega) HRX.out (HN1.out.wr.alloc _))
      have HNX := Hi (So.wFs_snoc HTK.out)
      have HNY := Hi (namesFs_snoc HTK.out)
      clear hc hkd hne hne' hkl hi1 hci hmi hsk ht
      go_wp2_with fail
      refine HREC.out.mono ?_
      rintro e w6 ⟨rfl, S6, hw6, hf6⟩
      have HN6 := Hi ((HN1.out.alloc (.cells #[.int .i64 i1, vs n1, .int .i64 ci, .int .i64 mi, .slice B1 kl q1] 24)).step hw6 hf6)
      clear hw6 hf6
      go_wp2_with fail
      refine ⟨⟨k + 1, by omega, by go_num, S6, ?_⟩, by simp [intOf]; omega⟩
      rw [HNX.out, HNY.out, ← List.append_assoc, ← List.append_assoc]
      exact HN6.out
    · have hk' : k = ks.length := by omega
      subst hk'
      have hlt2 : ¬ ((ks.length : Nat) : Int) < ks.length := by omega
      have hpl := So.wFs_le ks
      have hpn := namesFs_le ks
      have HN2 : Hid (SB W w wr p T S S1 (L ++ So.wFs ks) (N ++ namesFs ks) w.heap.size 24 #[.int .i64 oi, vs name, .int .i64 (cm : Int), .int .i64 (m : Int), .slice A1 ks.length p1]) := Hi (by have := HN1.out; rwa [List.take_length] at this)
      obtain ⟨LP, hLP⟩ : ∃ LP, L ++ So.wFs ks = LP := ⟨_, rfl⟩
      obtain ⟨NP, hNP⟩ : ∃ NP, N ++ namesFs ks = NP := ⟨_, rfl⟩
      have hLPl : LP.length ≤ L.length + 3 * sizes ks := by rw [← hLP, List.length_append]; omega
      have hNPl : NP.length ≤ N.length + sizes ks := by rw [← hNP, List.length_append]; omega
      rw [hLP, hNP] at HN2
      have HWF2 : Hid (L ++ So.wF (.mk op name cm m ks) = LP ++ lastF op name cm m ks.length) := Hi (by rw [HWF.out, ← hLP, List.append_assoc])
      have HNF2 : Hid (N ++ namesF (.mk op name cm m ks) = NP ++ ownF op name) := Hi (by rw [HNF.out, ← hNP, List.append_assoc])
      have zo : wr.cell? ⟨w.heap.size, 0, none⟩ = some (.int .i64 oi) := cOb (o := 0) HN2.out.bx rfl
      have zn : wr.cell? ⟨w.heap.size, 1, none⟩ = some (vs name) := cOb (o := 1) HN2.out.bx rfl
      have zm : wr.cell? ⟨w.heap.size, 3, none⟩ = some (.int .i64 (m : Int)) := cOb (o := 3) HN2.out.bx rfl
      have zk : wr.cell? ⟨w.heap.size, 4, none⟩ = some (.slice A1 ks.length p1) := cOb (o := 4) HN2.out.bx rfl
      obtain ⟨rfl, rfl⟩ | ⟨rfl, rfl⟩ | ⟨rfl, rfl⟩ | ⟨rfl, rfl⟩ | ⟨rfl, rfl⟩ | ⟨rfl, rfl⟩ | ⟨rfl, rfl⟩ := HOP.out
      · go_wp2_with fail
        refine (word_w W _ p T S1 LP NP [121, 101, 115] _ rfl HN2.out.wr (by simp; omega)).mono ?_
        rintro e w3 ⟨rfl, S3, hw, hf⟩
        have HN3 := Hi (HN2.out.step hw hf)
        clear hw hf zo zn zm zk x1
        go_wp2_with fail
        go_end0
        exact HN3.out.post (by rw [HWF2.out]; simp [lastF]) (by rw [HNF2.out]; simp [ownF])
      · go_wp2_with fail
        refine (word_w W _ p T S1 LP NP [110, 111] _ rfl HN2.out.wr (by simp; omega)).mono ?_
        rintro e w3 ⟨rfl, S3, hw, hf⟩
        have HN3 := Hi (HN2.out.step hw hf)
        clear hw hf zo zn zm zk x1
        go_wp2_with fail
        go_end0
        exact HN3.out.post (by rw [HWF2.out]; simp [lastF]) (by rw [HNF2.out]; simp [ownF])
      · obtain ⟨hcm1, hcm2, hmm⟩ := HS2.out rfl
        obtain ⟨sg, hsg⟩ : ∃ sg, So.cmpW.getD (cm - 1) [] = sg := ⟨_, rfl⟩
        have hix : ∀ w, (Instr.index 101 (.agg #[vs [], vs [101, 113, 117, 97, 108], vs [117, 110, 108, 105, 107, 101], vs [98, 101, 108, 111, 119], vs [109, 111, 115, 116], vs [97, 98, 111, 118, 101], vs [108, 101, 97, 115, 116]]) (.int .i64 (cm : Int))).run Tryz.prog w = .ok (vs sg) w := by
         obtain rfl | rfl | rfl | rfl | rfl | rfl : cm = 1 ∨ cm = 2 ∨ cm = 3 ∨ cm = 4 ∨ cm = 5 ∨ cm = 6 := by omega
         all_goals
          subst hsg
          exact fun _ => by kernel_rfl
        have HSG := Hi hsg
        clear hsg
        go_wp2_with fail
        go_still_tail 5, (by kernel_rfl)
        change wpList _ _ _ _ _ wr.drew
        go_wp2_with fail
        refine (name_w W _ p T S1 LP NP name (HN2.out.wr.keep (Below.refl _ _).drew) (by omega) (by omega)).mono ?_
        rintro e w3 ⟨rfl, S3, hw, hf⟩
        have HN3 := Hi (HN2.out.step hw ((WrFr.of_below S1 ((Below.refl wr.heap.size wr).drew)).trans hf))
        clear hw hf zo zn zm zk x1
        have x3 := lHp HN3.out.bx
        have xm : w3.cell? ⟨w.heap.size, 3, none⟩ = some (.int .i64 (m : Int)) := cOb (o := 3) HN3.out.bx rfl
        go_wp2_with fail
        go_still_tail 5, (by kernel_rfl)
        change wpList _ _ _ _ _ w3.drew
        go_wp2_with fail
        refine (number_w W _ p T S3 (LP ++ [name]) (NP ++ [name]) m (HN3.out.wr.keep (Below.refl _ _).drew) (by omega) (by simp; omega) HT.out).mono ?_
        rintro e w4 ⟨rfl, S4, hw, hf⟩
        have HN4 := Hi (HN3.out.step hw ((WrFr.of_below S3 ((Below.refl w3.heap.size w3).drew)).trans hf))
        clear hw hf x3 xm
        have x4 := lHp HN4.out.bx
        have xc : w4.cell? ⟨w.heap.size, 2, none⟩ = some (.int .i64 (cm : Int)) := cOb (o := 2) HN4.out.bx rfl
        go_wp2_with fail
        go_region_held3 (fun w' => w'.cell? ⟨w.heap.size, 2, none⟩ = some (.int .i64 (cm : Int))) (go_keep) ((go_at_call 27; refine (add_any W _ p T S4 (LP ++ [name] ++ [dec m]) (NP ++ [name]) [sg] _ 1 (HN4.out.wr.keep (((Below.refl _ _).alloc (lR _) _).drew)) cells_oned (by simp; omega)).mono ?_; rintro e w5 ⟨rfl, S5, hw, hf⟩; have HN5 := Hi (HN4.out.step hw ((WrFr.of_below S4 (((Below.refl w4.heap.size w4).alloc (lR _) _).drew)).trans hf)); have q2 := cOb (o := 2) HN5.out.bx rfl; clear hw hf))
        clear x4 xc
        go_wp2_with fail
        go_end0
        exact HN5.out.post (by rw [HWF2.out]; rw [← HSG.out]; simp [lastF]) (by rw [HNF2.out]; simp [ownF])
      · go_wp2_with fail
        go_still_tail 5, (by kernel_rfl)
        change wpList _ _ _ _ _ wr.drew
        go_wp2_with fail
        refine (name_w W _ p T S1 LP NP name (HN2.out.wr.keep (Below.refl _ _).drew) (by omega) (by omega)).mono ?_
        rintro e w3 ⟨rfl, S3, hw, hf⟩
        have HN3 := Hi (HN2.out.step hw ((WrFr.of_below S1 ((Below.refl wr.heap.size wr).drew)).trans hf))
        clear hw hf zo zn zm zk x1
        go_wp2_with fail
        refine (word_w W _ p T S3 (LP ++ [name]) (NP ++ [name]) [100, 101, 102, 105, 110, 101, 100] _ rfl HN3.out.wr (by simp; omega)).mono ?_
        rintro e w4 ⟨rfl, S4, hw, hf⟩
        have HN4 := Hi (HN3.out.step hw hf)
        clear hw hf 
        go_wp2_with fail
        go_end0
        exact HN4.out.post (by rw [HWF2.out]; simp [lastF]) (by rw [HNF2.out]; simp [ownF])
      · go_wp2_with fail
        refine (word_w W _ p T S1 LP NP [110, 101, 103, 97, 116, 101, 100] _ rfl HN2.out.wr (by simp; omega)).mono ?_
        rintro e w3 ⟨rfl, S3, hw, hf⟩
        have HN3 := Hi (HN2.out.step hw hf)
        clear hw hf zo zn zm zk x1
        go_wp2_with fail
        go_end0
        exact HN3.out.post (by rw [HWF2.out]; simp [lastF]) (by rw [HNF2.out]; simp [ownF])
      · go_wp2_with fail
        refine (many_w W _ p T S1 LP NP [97, 108, 108] ks.length HN2.out.wr (by omega) (by omega) HT.out).mono ?_
        rintro e w3 ⟨rfl, S3, hw, hf⟩
        have HN3 := Hi (HN2.out.step hw hf)
        clear hw hf zo zn zm zk x1
        go_wp2_with fail
        go_end0
        exact HN3.out.post (by rw [HWF2.out]; simp [lastF]) (by rw [HNF2.out]; simp [ownF])
      · go_wp2_with fail
        refine (many_w W _ p T S1 LP NP [97, 110, 121] ks.length HN2.out.wr (by omega) (by omega) HT.out).mono ?_
        rintro e w3 ⟨rfl, S3, hw, hf⟩
        have HN3 := Hi (HN2.out.step hw hf)
        clear hw hf zo zn zm zk x1
        go_wp2_with fail
        go_end0
        exact HN3.out.post (by rw [HWF2.out]; simp [lastF]) (by rw [HNF2.out]; simp [ownF])
end Go.Proofs.YtbicmjmcdnkjhaaGreatDoor
set_option maxRecDepth 20000
set_option maxHeartbeats 16000000
namespace Go.Proofs.YtbicmjmcdnkjhaaGreatDoor
open Go.RowKit
attribute [local go_sem ↓] Go.wp_at_zero Go.wp_at_succ
def lastS (op : Nat) (name : Bytes) (n l : Nat) : List Bytes := if op = 1 then [[97, 108, 119, 97, 121, 115]] else if op = 2 then [[110, 101, 118, 101, 114]]
 else if op = 3 then [dec n, [100, 97, 121]] else if op = 4 ∨ op = 5 ∨ op = 6 ∨ op = 7 then [name, So.opsW.getD (op - 4) []]
 else if op = 8 then [So.wAll, dec l] else if op = 9 then [So.wAny, dec l] else []
theorem ownS_last {op : Nat} {name : Bytes} {cm m : Nat} {ks : List Tree} (h : shapeS (.mk op name cm m ks) = true) : namesS (.mk op name cm m ks) = namesSs ks ++ ownS op name := by
 obtain ⟨-, -, h3, -⟩ := shapeS_op h
 rw [namesS]
 unfold ownS
 rcases h3 with rfl | h3
 · simp [namesSs]
 · rw [if_neg (by omega)]; simp
theorem sstart_any (W : World) (ht : Tabs W) : ∀ (M : Nat) (t : Tree) (cs : List Value) (w : World) (p : Nat) (T : TypeId) (S : Nat → Prop) (L N : List Bytes), t.size ≤ M → shapeS t = true → L.length + 6 * t.size ≤ 900000 → N.length + t.size ≤ 900000 → RdX false W cs (up t) → Wr W w p T S L N →
 Calls Tryz.prog 46 #[.pointer (some ⟨p, 0, none⟩), .agg cs.toArray] w (WrPost W w p T S (L ++ So.wS t) (N ++ namesS t)) := by
 intro M
 induction M with
 | zero =>
   intro t cs w p T S L N hM
   have := tree_pos t
   omega
 | succ M ih =>
   intro t cs w p T S L N hM hs hl1 hl2 hr hw
   have IH := Hi ih
   obtain ⟨op, name, cm, m, ks⟩ := t
   rw [up] at hr
   obtain ⟨A1, p1, rfl, -, hk1⟩ := hr
   have HK := Hi hk1
   rw [ups_len] at *
   have hkn := len_sizes ks
   simp only [Tree.size] at hM hl1 hl2
   simp only [tcX]
   obtain ⟨oi, hoi⟩ : ∃ oi : Int, (op : Int) = oi := ⟨_, rfl⟩
   rw [hoi]
   have HSB : Hid (SB W w (w.alloc (.cells #[.int .i64 oi, vs name, .int .i64 (m : Int), .slice A1 ks.length p1] 28)) p T S S L N w.heap.size 28 #[.int .i64 oi, vs name, .int .i64 (m : Int), .slice A1 ks.length p1]) := Hi (SB.start hw)
   obtain ⟨s1, s2, s3, s4⟩ := shapeS_op hs
   have HS2 := Hi s2
   have HS3 := Hi s3
   have HS4 := Hi s4
   have HWF : Hid (So.wS (.mk op name cm m ks) = So.wSs ks ++ lastS op name m ks.length) := Hi (by rw [So.wS]; rfl)
   have HNF := Hi (ownS_last hs)
   have HT := Hi ht
   have hop : (op = 1 ∧ oi = 1) ∨ (op = 2 ∧ oi = 2) ∨ (op = 3 ∧ oi = 3) ∨ (op = 4 ∧ oi = 4) ∨ (op = 5 ∧ oi = 5) ∨ (op = 6 ∧ oi = 6) ∨ (op = 7 ∧ oi = 7) ∨ (op = 8 ∧ oi = 8) ∨ (op = 9 ∧ oi = 9) := by omega
   have HOP := Hi hop
   clear ih hk1 hs hw ht s1 s2 s3 s4 hoi hop
   go_enter Tryz.func46, Tryz.ntmps46
   go_wp2_with fail
   go_loopw [9] (fun v wr => ∃ k : Nat, k ≤ ks.length ∧ v = .int .i64 k ∧ ∃ S', SB W w wr p T S S' (L ++ So.wSs (ks.take k)) (N ++ namesSs (ks.take k)) w.heap.size 28 #[.int .i64 oi, vs name, .int .i64 (m : Int), .slice A1 ks.length p1]) (fun v _ => ks.length - (intOf v).toNat)
   case atStart => exact ⟨0, Nat.zero_le _, rfl, S, by have := HSB.out; simpa [So.wSs, namesSs] using this⟩
   case round =>
    obtain ⟨k, hk, rfl, S1, hnb1⟩ := hrel
    have HN1 := Hi hnb1
    have HBW := Hi hnb1.wr.below
    have x1 := lHp hnb1.bx
    clear hnb1
    by_cases hlt : k < ks.length
    · obtain ⟨t, ht⟩ := gLt hlt
      have HTK := Hi ht
      have hne : ks ≠ [] := by rintro rfl; simp at hlt
      have hne' : ups ks ≠ [] := by
       intro e
       have := congrArg List.length e
       rw [ups_len] at this
       simp at this
       exact hne this
      obtain ⟨b, q, rfl, hbl, hkd⟩ := HK.out.resolve_left hne'
      obtain ⟨cs, hc, hrx⟩ := hkd.kids ht
      have hst := size_of_kid ht
      have hsk := shapeSs_get HS4.out ht
      have hpl := So.wSs_le (ks.take k)
      have hpn := namesSs_le (ks.take k)
      have HSK := Hi hsk
      have HRX := Hi hrx
      obtain ⟨o1, n1, c1, m1, k1⟩ := t
      rw [up] at hrx
      obtain ⟨B1, q1, rfl, -, -⟩ := hrx
      rw [ups_len] at hc HRX
      obtain ⟨kl, hkl⟩ : ∃ kl, k1.length = kl := ⟨_, rfl⟩
      obtain ⟨i1, hi1⟩ : ∃ i1 : Int, (o1 : Int) = i1 := ⟨_, rfl⟩
      obtain ⟨mi, hmi⟩ : ∃ mi : Int, (m1 : Int) = mi := ⟨_, rfl⟩
      have HUP : Hid (tcX false (o1 : Int) n1 (c1 : Int) (m1 : Int) (.slice B1 k1.length q1) = [.int .i64 i1, vs n1, .int .i64 mi, .slice B1 kl q1]) := Hi (by rw [hkl, hi1, hmi]; rfl)
      rw [HUP.out] at hc HRX
      have z0 : wr.cell? ⟨b, q + k * 4, none⟩ = some (.int .i64 i1) := (HBW.out.cell (p := ⟨b, q + k * 4, none⟩) hbl).trans (hc 0 _ rfl)
      have z1 : wr.cell? ⟨b, q + k * 4 + 1, none⟩ = some (vs n1) := (HBW.out.cell (p := ⟨b, q + k * 4 + 1, none⟩) hbl).trans (hc 1 _ rfl)
      have z2 : wr.cell? ⟨b, q + k * 4 + 2, none⟩ = some (.int .i64 mi) := (HBW.out.cell (p := ⟨b, q + k * 4 + 2, none⟩) hbl).trans (hc 2 _ rfl)
      have z3 : wr.cell? ⟨b, q + k * 4 + 3, none⟩ = some (.slice B1 kl q1) := (HBW.out.cell (p := ⟨b, q + k * 4 + 3, none⟩) hbl).trans (hc 3 _ rfl)
      have hk1 : (k : Int) < ks.length := by omega
      have hk0 : (0 : Int) ≤ k := by omega
      have hbl' : b < wr.heap.size := by have := HBW.out.size; omega
      have HREC := Hi (IH.out (.mk o1 n1 c1 m1 k1) [.int .i64 i1, vs n1, .int .i64 mi, .slice B1 kl q1] (wr.alloc (.cells #[.int .i64 i1, vs n1, .int .i64 mi, .slice B1 kl q1] 28)) p T S1 (L ++ So.wSs (ks.take k)) (N ++ namesSs (ks.take k)) (by omega) HSK.out (by simp only [List.length_append]; omega) (by simp only [List.length_append]; omega) HRX.out (HN1.out.wr.alloc _))
      have HNX := Hi (So.wSs_snoc HTK.out)
      have HNY := Hi (namesSs_snoc HTK.out)
      clear hc hkd hne hne' hkl hi1 hmi hsk ht
      go_wp2_with fail
      refine HREC.out.mono ?_
      rintro e w6 ⟨rfl, S6, hw6, hf6⟩
      have HN6 := Hi ((HN1.out.alloc (.cells #[.int .i64 i1, vs n1, .int .i64 mi, .slice B1 kl q1] 28)).step hw6 hf6)
      clear hw6 hf6
      go_wp2_with fail
      refine ⟨⟨k + 1, by omega, by go_num, S6, ?_⟩, by simp [intOf]; omega⟩
      rw [HNX.out, HNY.out, ← List.append_assoc, ← List.append_assoc]
      exact HN6.out
    · have hk' : k = ks.length := by omega
      subst hk'
      have hlt2 : ¬ ((ks.length : Nat) : Int) < ks.length := by omega
      have hpl := So.wSs_le ks
      have hpn := namesSs_le ks
      have HN2 : Hid (SB W w wr p T S S1 (L ++ So.wSs ks) (N ++ namesSs ks) w.heap.size 28 #[.int .i64 oi, vs name, .int .i64 (m : Int), .slice A1 ks.length p1]) := Hi (by have := HN1.out; rwa [List.take_length] at this)
      obtain ⟨LP, hLP⟩ : ∃ LP, L ++ So.wSs ks = LP := ⟨_, rfl⟩
      obtain ⟨NP, hNP⟩ : ∃ NP, N ++ namesSs ks = NP := ⟨_, rfl⟩
      have hLPl : LP.length ≤ L.length + 3 * sizes ks := by rw [← hLP, List.length_append]; omega
      have hNPl : NP.length ≤ N.length + sizes ks := by rw [← hNP, List.length_append]; omega
      rw [hLP, hNP] at HN2
      have HWF2 : Hid (L ++ So.wS (.mk op name cm m ks) = LP ++ lastS op name m ks.length) := Hi (by rw [HWF.out, ← hLP, List.append_assoc])
      have HNF2 : Hid (N ++ namesS (.mk op name cm m ks) = NP ++ ownS op name) := Hi (by rw [HNF.out, ← hNP, List.append_assoc])
      have zo : wr.cell? ⟨w.heap.size, 0, none⟩ = some (.int .i64 oi) := cOb (o := 0) HN2.out.bx rfl
      have zn : wr.cell? ⟨w.heap.size, 1, none⟩ = some (vs name) := cOb (o := 1) HN2.out.bx rfl
      have zm : wr.cell? ⟨w.heap.size, 2, none⟩ = some (.int .i64 (m : Int)) := cOb (o := 2) HN2.out.bx rfl
      have zk : wr.cell? ⟨w.heap.size, 3, none⟩ = some (.slice A1 ks.length p1) := cOb (o := 3) HN2.out.bx rfl
      obtain ⟨rfl, rfl⟩ | ⟨rfl, rfl⟩ | ⟨rfl, rfl⟩ | ⟨rfl, rfl⟩ | ⟨rfl, rfl⟩ | ⟨rfl, rfl⟩ | ⟨rfl, rfl⟩ | ⟨rfl, rfl⟩ | ⟨rfl, rfl⟩ := HOP.out
      · go_wp2_with fail
        refine (word_w W _ p T S1 LP NP [97, 108, 119, 97, 121, 115] _ rfl HN2.out.wr (by simp; omega)).mono ?_
        rintro e w3 ⟨rfl, S3, hw, hf⟩
        have HN3 := Hi (HN2.out.step hw hf)
        clear hw hf zo zn zm zk x1
        go_wp2_with fail
        go_end0
        exact HN3.out.post (by rw [HWF2.out]; simp [lastS]) (by rw [HNF2.out]; simp [ownS])
      · go_wp2_with fail
        refine (word_w W _ p T S1 LP NP [110, 101, 118, 101, 114] _ rfl HN2.out.wr (by simp; omega)).mono ?_
        rintro e w3 ⟨rfl, S3, hw, hf⟩
        have HN3 := Hi (HN2.out.step hw hf)
        clear hw hf zo zn zm zk x1
        go_wp2_with fail
        go_end0
        exact HN3.out.post (by rw [HWF2.out]; simp [lastS]) (by rw [HNF2.out]; simp [ownS])
      · have hmm := HS2.out
        go_wp2_with fail
        go_still_tail 5, (by kernel_rfl)
        change wpList _ _ _ _ _ wr.drew
        go_wp2_with fail
        refine (number_w W _ p T S1 LP NP m (HN2.out.wr.keep (Below.refl _ _).drew) (by omega) (by simp; omega) HT.out).mono ?_
        rintro e w3 ⟨rfl, S3, hw, hf⟩
        have HN3 := Hi (HN2.out.step hw ((WrFr.of_below S1 ((Below.refl wr.heap.size wr).drew)).trans hf))
        clear hw hf zo zn zm zk x1
        go_wp2_with fail
        refine (word_w W _ p T S3 (LP ++ [dec m]) NP [100, 97, 121] _ rfl HN3.out.wr (by simp; omega)).mono ?_
        rintro e w4 ⟨rfl, S4, hw, hf⟩
        have HN4 := Hi (HN3.out.step hw hf)
        clear hw hf 
        go_wp2_with fail
        go_end0
        exact HN4.out.post (by rw [HWF2.out]; simp [lastS]) (by rw [HNF2.out]; simp [ownS])
      · have hix : ∀ w, (Instr.index 102 (.agg #[vs [], vs [], vs [], vs [], vs [100, 101, 99, 114, 101, 101], vs [101, 118, 101, 110, 116], vs [98, 101, 103, 117, 110], vs [111, 118, 101, 114]]) (.int .i64 4)).run Tryz.prog w = .ok (vs [100, 101, 99, 114, 101, 101]) w := fun _ => by kernel_rfl
        go_wp2_with fail
        go_still_tail 5, (by kernel_rfl)
        change wpList _ _ _ _ _ wr.drew
        go_wp2_with fail
        refine (name_w W _ p T S1 LP NP name (HN2.out.wr.keep (Below.refl _ _).drew) (by omega) (by omega)).mono ?_
        rintro e w3 ⟨rfl, S3, hw, hf⟩
        have HN3 := Hi (HN2.out.step hw ((WrFr.of_below S1 ((Below.refl wr.heap.size wr).drew)).trans hf))
        clear hw hf zo zn zm zk x1
        have x3 := lHp HN3.out.bx
        have xc : w3.cell? ⟨w.heap.size, 0, none⟩ = some (.int .i64 4) := cOb (o := 0) HN3.out.bx rfl
        go_wp2_with fail
        go_region_held3 (fun w' => w'.cell? ⟨w.heap.size, 0, none⟩ = some (.int .i64 4)) (go_keep) ((go_at_call 27; refine (add_any W _ p T S3 (LP ++ [name]) (NP ++ [name]) [[100, 101, 99, 114, 101, 101]] _ 1 (HN3.out.wr.keep (((Below.refl _ _).alloc (lR _) _).drew)) cells_oned (by simp; omega)).mono ?_; rintro e w5 ⟨rfl, S5, hw, hf⟩; have HN5 := Hi (HN3.out.step hw ((WrFr.of_below S3 (((Below.refl w3.heap.size w3).alloc (lR _) _).drew)).trans hf)); have q2 := cOb (o := 0) HN5.out.bx rfl; clear hw hf))
        clear x3 xc
        go_wp2_with fail
        go_end0
        exact HN5.out.post (by rw [HWF2.out]; simp [lastS, So.opsW]) (by rw [HNF2.out]; simp [ownS])
      · have hix : ∀ w, (Instr.index 102 (.agg #[vs [], vs [], vs [], vs [], vs [100, 101, 99, 114, 101, 101], vs [101, 118, 101, 110, 116], vs [98, 101, 103, 117, 110], vs [111, 118, 101, 114]]) (.int .i64 5)).run Tryz.prog w = .ok (vs [101, 118, 101, 110, 116]) w := fun _ => by kernel_rfl
        go_wp2_with fail
        go_still_tail 5, (by kernel_rfl)
        change wpList _ _ _ _ _ wr.drew
        go_wp2_with fail
        refine (name_w W _ p T S1 LP NP name (HN2.out.wr.keep (Below.refl _ _).drew) (by omega) (by omega)).mono ?_
        rintro e w3 ⟨rfl, S3, hw, hf⟩
        have HN3 := Hi (HN2.out.step hw ((WrFr.of_below S1 ((Below.refl wr.heap.size wr).drew)).trans hf))
        clear hw hf zo zn zm zk x1
        have x3 := lHp HN3.out.bx
        have xc : w3.cell? ⟨w.heap.size, 0, none⟩ = some (.int .i64 5) := cOb (o := 0) HN3.out.bx rfl
        go_wp2_with fail
        go_region_held3 (fun w' => w'.cell? ⟨w.heap.size, 0, none⟩ = some (.int .i64 5)) (go_keep) ((go_at_call 27; refine (add_any W _ p T S3 (LP ++ [name]) (NP ++ [name]) [[101, 118, 101, 110, 116]] _ 1 (HN3.out.wr.keep (((Below.refl _ _).alloc (lR _) _).drew)) cells_oned (by simp; omega)).mono ?_; rintro e w5 ⟨rfl, S5, hw, hf⟩; have HN5 := Hi (HN3.out.step hw ((WrFr.of_below S3 (((Below.refl w3.heap.size w3).alloc (lR _) _).drew)).trans hf)); have q2 := cOb (o := 0) HN5.out.bx rfl; clear hw hf))
        clear x3 xc
        go_wp2_with fail
        go_end0
        exact HN5.out.post (by rw [HWF2.out]; simp [lastS, So.opsW]) (by rw [HNF2.out]; simp [ownS])
      · have hix : ∀ w, (Instr.index 102 (.agg #[vs [], vs [], vs [], vs [], vs [100, 101, 99, 114, 101, 101], vs [101, 118, 101, 110, 116], vs [98, 101, 103, 117, 110], vs [111, 118, 101, 114]]) (.int .i64 6)).run Tryz.prog w = .ok (vs [98, 101, 103, 117, 110]) w := fun _ => by kernel_rfl
        go_wp2_with fail
        go_still_tail 5, (by kernel_rfl)
        change wpList _ _ _ _ _ wr.drew
        go_wp2_with fail
        refine (name_w W _ p T S1 LP NP name (HN2.out.wr.keep (Below.refl _ _).drew) (by omega) (by omega)).mono ?_
        rintro e w3 ⟨rfl, S3, hw, hf⟩
        have HN3 := Hi (HN2.out.step hw ((WrFr.of_below S1 ((Below.refl wr.heap.size wr).drew)).trans hf))
        clear hw hf zo zn zm zk x1
        have x3 := lHp HN3.out.bx
        have xc : w3.cell? ⟨w.heap.size, 0, none⟩ = some (.int .i64 6) := cOb (o := 0) HN3.out.bx rfl
        go_wp2_with fail
        go_region_held3 (fun w' => w'.cell? ⟨w.heap.size, 0, none⟩ = some (.int .i64 6)) (go_keep) ((go_at_call 27; refine (add_any W _ p T S3 (LP ++ [name]) (NP ++ [name]) [[98, 101, 103, 117, 110]] _ 1 (HN3.out.wr.keep (((Below.refl _ _).alloc (lR _) _).drew)) cells_oned (by simp; omega)).mono ?_; rintro e w5 ⟨rfl, S5, hw, hf⟩; have HN5 := Hi (HN3.out.step hw ((WrFr.of_below S3 (((Below.refl w3.heap.size w3).alloc (lR _) _).drew)).trans hf)); have q2 := cOb (o := 0) HN5.out.bx rfl; clear hw hf))
        clear x3 xc
        go_wp2_with fail
        go_end0
        exact HN5.out.post (by rw [HWF2.out]; simp [lastS, So.opsW]) (by rw [HNF2.out]; simp [ownS])
      · have hix : ∀ w, (Instr.index 102 (.agg #[vs [], vs [], vs [], vs [], vs [100, 101, 99, 114, 101, 101], vs [101, 118, 101, 110, 116], vs [98, 101, 103, 117, 110], vs [111, 118, 101, 114]]) (.int .i64 7)).run Tryz.prog w = .ok (vs [111, 118, 101, 114]) w := fun _ => by kernel_rfl
        go_wp2_with fail
        go_still_tail 5, (by kernel_rfl)
        change wpList _ _ _ _ _ wr.drew
        go_wp2_with fail
        refine (name_w W _ p T S1 LP NP name (HN2.out.wr.keep (Below.refl _ _).drew) (by omega) (by omega)).mono ?_
        rintro e w3 ⟨rfl, S3, hw, hf⟩
        have HN3 := Hi (HN2.out.step hw ((WrFr.of_below S1 ((Below.refl wr.heap.size wr).drew)).trans hf))
        clear hw hf zo zn zm zk x1
        have x3 := lHp HN3.out.bx
        have xc : w3.cell? ⟨w.heap.size, 0, none⟩ = some (.int .i64 7) := cOb (o := 0) HN3.out.bx rfl
        go_wp2_with fail
        go_region_held3 (fun w' => w'.cell? ⟨w.heap.size, 0, none⟩ = some (.int .i64 7)) (go_keep) ((go_at_call 27; refine (add_any W _ p T S3 (LP ++ [name]) (NP ++ [name]) [[111, 118, 101, 114]] _ 1 (HN3.out.wr.keep (((Below.refl _ _).alloc (lR _) _).drew)) cells_oned (by simp; omega)).mono ?_; rintro e w5 ⟨rfl, S5, hw, hf⟩; have HN5 := Hi (HN3.out.step hw ((WrFr.of_below S3 (((Below.refl w3.heap.size w3).alloc (lR _) _).drew)).trans hf)); have q2 := cOb (o := 0) HN5.out.bx rfl; clear hw hf))
        clear x3 xc
        go_wp2_with fail
        go_end0
        exact HN5.out.post (by rw [HWF2.out]; simp [lastS, So.opsW]) (by rw [HNF2.out]; simp [ownS])
      · go_wp2_with fail
        refine (many_w W _ p T S1 LP NP [97, 108, 108] ks.length HN2.out.wr (by omega) (by omega) HT.out).mono ?_
        rintro e w3 ⟨rfl, S3, hw, hf⟩
        have HN3 := Hi (HN2.out.step hw hf)
        clear hw hf zo zn zm zk x1
        go_wp2_with fail
        go_end0
        exact HN3.out.post (by rw [HWF2.out]; simp [lastS]) (by rw [HNF2.out]; simp [ownS])
      · go_wp2_with fail
        refine (many_w W _ p T S1 LP NP [97, 110, 121] ks.length HN2.out.wr (by omega) (by omega) HT.out).mono ?_
        rintro e w3 ⟨rfl, S3, hw, hf⟩
        have HN3 := Hi (HN2.out.step hw hf)
        clear hw hf zo zn zm zk x1
        go_wp2_with fail
        go_end0
        exact HN3.out.post (by rw [HWF2.out]; simp [lastS]) (by rw [HNF2.out]; simp [ownS])
end Go.Proofs.YtbicmjmcdnkjhaaGreatDoor
namespace Go.Proofs.YtbicmjmcdnkjhaaGreatDoor
open Go.Lib
end Go.Proofs.YtbicmjmcdnkjhaaGreatDoor
