/- (*northern).north writes a formula. -/
import Derived.Test.YtbicmjmcdnkjhaaGreatDoorJMM1
import Derived.Test.YtbicmjmcdnkjhaaGreatDoorJMM8
import Derived.Deep.CutRange
import Derived.StillTailTactics
import Derived.Deep.RegionHeld3
import Derived.Deep.DrawnRows
set_option linter.unusedVariables false
set_option linter.unusedSimpArgs false
set_option maxRecDepth 20000
set_option maxHeartbeats 16000000
namespace Go.Proofs.YtbicmjmcdnkjhaaGreatDoor
open Go.RowKit
attribute [local go_sem ↓] Go.wp_at_zero Go.wp_at_succ
theorem cells_oned {w : World} {s : List UInt8} {t : TypeId} : ∀ (j : Nat) x, [s][j]? = some x → ((w.alloc (.cells #[vs s] t)).drew).cell? ⟨w.heap.size, j, none⟩ = some (vs x) := fun j x hx => cells_one j x hx
theorem len_sizes : ∀ ks : List Tree, ks.length ≤ sizes ks
 | [] => Nat.zero_le _
 | k :: r => by
   have h1 := tree_pos k
   have h2 := len_sizes r
   rw [sizes, List.length_cons]
   omega
theorem RdXs.kids {fm : Bool} {w : World} {b o k : Nat} {ks : List Tree} {t : Tree} (h : RdXs fm w b o (ups ks)) (ht : ks[k]? = some t) : ∃ cs, (∀ j v, cs[j]? = some v → w.cell? ⟨b, o + k * tszX fm + j, none⟩ = some v) ∧ RdX fm w cs (up t) := h.get (ups_get ht)
theorem size_of_kid {ks : List Tree} {k : Nat} {t : Tree} (h : ks[k]? = some t) : sizes (ks.take k) + t.size ≤ sizes ks := by
 rw [← sizes_snoc h]
 exact sizes_split ks (k + 1)
theorem belowA (w : World) (o : Obj) : Below w.heap.size w (w.alloc o) := (Below.refl _ _).alloc (lR _) _
def headF (op : Nat) (name : Bytes) (cmp n : Nat) : List Bytes := if op = 1 then [[116, 114, 117, 101]] else if op = 2 then [[102, 97, 108, 115, 101]] else if op = 3 then [name, signs.getD (cmp - 1) [], dec n] else if op = 4 then [name] else if op = 5 then [[110, 111, 116]] else []
def ownF (op : Nat) (name : Bytes) : List Bytes := if op = 3 ∨ op = 4 then [name] else []
def sepF (op : Nat) : Bytes := if op = 7 then wOr else wAnd
theorem wF_parts {op : Nat} {name : Bytes} {cm m : Nat} {ks : List Tree} (h : shapeF (.mk op name cm m ks) = true) : wF (.mk op name cm m ks) = headF op name cm m ++ sepW (sepF op) (wFs (decide (op = 7)) ks) := by
 rw [shapeF] at h
 simp only [Bool.and_eq_true] at h
 have h3 := h.1.2
 rw [wF]
 unfold headF sepF
 by_cases o1 : op = 1
 · subst o1
   have : ks = [] := by simpa using h3
   subst this
   simp [wFs, sepW]
 by_cases o2 : op = 2
 · subst o2
   have : ks = [] := by simpa using h3
   subst this
   simp [wFs, sepW]
 by_cases o3 : op = 3
 · subst o3
   have : ks = [] := by simpa using h3
   subst this
   simp [wFs, sepW]
 by_cases o4 : op = 4
 · subst o4
   have : ks = [] := by simpa using h3
   subst this
   simp [wFs, sepW]
 by_cases o5 : op = 5
 · subst o5
   have h1 : ks.length = 1 := by simpa using h3
   match ks, h1 with
   | [k], _ => simp [wFs, sepW]
 by_cases o6 : op = 6
 · subst o6; simp
 by_cases o7 : op = 7
 · subst o7; simp
 simp [o1, o2, o3, o4, o5, o6, o7] at h3
theorem shapeF_op {op : Nat} {name : Bytes} {cm m : Nat} {ks : List Tree} (h : shapeF (.mk op name cm m ks) = true) : (op = 1 ∨ op = 2 ∨ op = 3 ∨ op = 4 ∨ op = 5 ∨ op = 6 ∨ op = 7) ∧ (op = 3 → 1 ≤ cm ∧ cm ≤ 6 ∧ m ≤ 1000000) ∧ (ks = [] ∨ op = 5 ∧ ks.length = 1 ∨ op = 6 ∨ op = 7) ∧ shapeFs ks = true := by
 rw [shapeF] at h
 simp only [Bool.and_eq_true] at h
 obtain ⟨⟨⟨h1, h2⟩, h3⟩, h4⟩ := h
 refine ⟨?_, fun o3 => ?_, ?_, h4⟩
 · by_cases o : op = 1 ∨ op = 2 ∨ op = 3 ∨ op = 4
   · omega
   · rw [if_neg o] at h3
     split at h3
     · omega
     · split at h3
       · omega
       · cases h3
 · rw [if_pos o3] at h1
   simp only [Bool.and_eq_true, decide_eq_true_eq] at h1
   omega
 · by_cases o : op = 1 ∨ op = 2 ∨ op = 3 ∨ op = 4
   · rw [if_pos o] at h3
     exact Or.inl (by simpa using h3)
   · rw [if_neg o] at h3
     split at h3
     · rename_i o5; exact Or.inr (Or.inl ⟨o5, by simpa using h3⟩)
     · split at h3
       · omega
       · cases h3
theorem nclos_f (W w1 : World) (p : Nat) (T : TypeId) (S1 : Nat → Prop) (L N X Y : List Bytes) (bw bk k1 q1 : Nat) (o1 : Int) (n1 : List UInt8) (d1 m1 : Int) (B1 : Option Addr) (Tp Tf : TypeId) (h1 : w1.heap[bw]? = some (.cells #[.pointer (some ⟨p, 0, none⟩)] Tp (0, 0))) (h2 : w1.heap[bk]? = some (.cells #[.int .i64 o1, vs n1, .int .i64 d1, .int .i64 m1, .slice B1 k1 q1] Tf (0, 0)))
 (hc : Calls Tryz.prog 30 #[.pointer (some ⟨p, 0, none⟩), .agg #[.int .i64 o1, vs n1, .int .i64 d1, .int .i64 m1, .slice B1 k1 q1]] w1 (WrPost W w1 p T S1 X Y)) : Calls Tryz.prog 64 #[.pointer (some ⟨bw, 0, none⟩), .pointer (some ⟨bk, 0, none⟩)] w1 (WrPost W w1 p T S1 X Y) := by
 have z : w1.cell? ⟨bw, 0, none⟩ = some (.pointer (some ⟨p, 0, none⟩)) := cOb h1 rfl
 have z0 : w1.cell? ⟨bk, 0, none⟩ = some (.int .i64 o1) := cOb h2 rfl
 have z1 : w1.cell? ⟨bk, 1, none⟩ = some (vs n1) := cOb h2 rfl
 have z2 : w1.cell? ⟨bk, 2, none⟩ = some (.int .i64 d1) := cOb h2 rfl
 have z3 : w1.cell? ⟨bk, 3, none⟩ = some (.int .i64 m1) := cOb h2 rfl
 have z4 : w1.cell? ⟨bk, 4, none⟩ = some (.slice B1 k1 q1) := cOb h2 rfl
 have y1 := lHp h1
 have y2 := lHp h2
 have HC := Hi hc
 clear h1 h2 hc
 go_enter Tryz.func64, Tryz.ntmps64
 go_wp2_with fail
 refine HC.out.mono ?_
 rintro e w3 ⟨rfl, S', hw, hf⟩
 have HW := Hi hw
 have HF := Hi hf
 clear hw hf
 go_wp2_with fail
 go_end0
 exact ⟨rfl, S', HW.out, HF.out⟩
theorem next_f (b : Bool) (sp : Bytes) {ks : List Tree} {k : Nat} {t : Tree} (h : ks[k]? = some t) : sepW sp (wFs b (ks.take (k + 1))) = sepW sp (wFs b (ks.take k)) ++ ((if k = 0 then [] else [sp]) ++ wrapW b t 6 7 (wF t)) := by
 have hk := (List.getElem?_eq_some_iff.1 h).1
 rw [wFs_snoc b h, sepW_snoc]
 congr 2
 cases k with
 | zero => simp [wFs]
 | succ k =>
   have : wFs b (ks.take (k + 1)) ≠ [] := by
    intro e
    have := congrArg List.length e
    rw [wFs_len, List.length_take, List.length_nil] at this
    omega
   rw [if_neg this, if_neg (by omega)]
theorem north_any (W : World) (ht : Tabs W) : ∀ (M : Nat) (t : Tree) (cs : List Value) (w : World) (p : Nat) (T : TypeId) (S : Nat → Prop) (L N : List Bytes), t.size ≤ M → shapeF t = true → L.length + 6 * t.size ≤ 900000 → N.length + t.size ≤ 900000 → RdX true W cs (up t) → Wr W w p T S L N →
 Calls Tryz.prog 30 #[.pointer (some ⟨p, 0, none⟩), .agg cs.toArray] w (WrPost W w p T S (L ++ wF t) (N ++ namesF t)) := by
 intro M
 induction M with
 | zero =>
   intro t cs w p T S L N hM
   have := tree_pos t
   omega
 | succ M ih =>
   intro t cs w p T S L N hM hs hl1 hl2 hr hw
   have IH := Hi ih
   obtain ⟨op, name, cm, m, ks⟩ := t
   rw [up] at hr
   obtain ⟨A1, p1, rfl, -, hk1⟩ := hr
   have HK := Hi hk1
   rw [ups_len] at *
   have hkn := len_sizes ks
   simp only [Tree.size] at hM hl1 hl2
   simp only [tcX]
   obtain ⟨oi, hoi⟩ : ∃ oi : Int, (op : Int) = oi := ⟨_, rfl⟩
   rw [hoi]
   have HNB : Hid (NB W w ((w.alloc (.cells #[.pointer (some ⟨p, 0, none⟩)] 100)).alloc (.cells #[.int .i64 oi, vs name, .int .i64 (cm : Int), .int .i64 (m : Int), .slice A1 ks.length p1] 24)) p T S S L N w.heap.size (w.heap.size + 1) 100 24 #[.int .i64 oi, vs name, .int .i64 (cm : Int), .int .i64 (m : Int), .slice A1 ks.length p1]) := Hi (NB.start hw)
   obtain ⟨s1, s2, s3, s4⟩ := shapeF_op hs
   have HS2 := Hi s2
   have HS3 := Hi s3
   have HS4 := Hi s4
   have HWF := Hi (wF_parts hs)
   have HNF : Hid (namesF (.mk op name cm m ks) = ownF op name ++ namesFs ks) := Hi (by rw [namesF]; rfl)
   have HT := Hi ht
   have hop : (op = 1 ∧ oi = 1) ∨ (op = 2 ∧ oi = 2) ∨ (op = 3 ∧ oi = 3) ∨ (op = 4 ∧ oi = 4) ∨ (op = 5 ∧ oi = 5) ∨ (op = 6 ∧ oi = 6) ∨ (op = 7 ∧ oi = 7) := by omega
   have HOI := Hi hoi
   clear ih hk1 hs hw ht s1 s2 s3 s4 hoi
   have hmf : ∀ (fn : Fn) (first cap : Array Value) (w : World), (Instr.makeFunc fn first cap).run Tryz.prog w = .ok (.func fn first cap) w := fun _ _ _ _ => rfl
   go_enter Tryz.func30, Tryz.ntmps30
   go_upto_block 0 with fail
   go_cut [2, 3] from 0 (fun s2 s3 wc => s2 = .pointer (some ⟨w.heap.size, 0, none⟩) ∧ s3 = .pointer (some ⟨w.heap.size + 1, 0, none⟩) ∧ ∃ S', NB W w wc p T S S' (L ++ headF op name cm m) (N ++ ownF op name) w.heap.size (w.heap.size + 1) 100 24 #[.int .i64 oi, vs name, .int .i64 (cm : Int), .int .i64 (m : Int), .slice A1 ks.length p1])
   case first =>
    obtain ⟨y1, y2, z0⟩ := HNB.out.lts
    have zn := cOb (o := 1) HNB.out.bx2 rfl
    have zm := cOb (o := 3) HNB.out.bx2 rfl
    rcases hop with ⟨rfl, rfl⟩ | ⟨rfl, rfl⟩ | ⟨rfl, rfl⟩ | ⟨rfl, rfl⟩ | ⟨rfl, rfl⟩ | ⟨rfl, rfl⟩ | ⟨rfl, rfl⟩
    · go_wp2_with fail
      refine (word_w W _ p T S L N [116, 114, 117, 101] _ (by simp) HNB.out.wr (by omega)).mono ?_
      rintro e w1 ⟨rfl, S1, hw1, hf1⟩
      have HN1 := Hi (HNB.out.step hw1 hf1)
      clear hw1 hf1
      go_wp2_with fail
      go_meet
      case rel => exact ⟨rfl, rfl, S1, by have := HN1.out; simpa [headF, ownF] using this⟩
    · go_wp2_with fail
      refine (word_w W _ p T S L N [102, 97, 108, 115, 101] _ (by simp) HNB.out.wr (by omega)).mono ?_
      rintro e w1 ⟨rfl, S1, hw1, hf1⟩
      have HN1 := Hi (HNB.out.step hw1 hf1)
      clear hw1 hf1
      go_wp2_with fail
      go_meet
      case rel => exact ⟨rfl, rfl, S1, by have := HN1.out; simpa [headF, ownF] using this⟩
    · obtain ⟨hcm1, hcm2, hmm⟩ := HS2.out rfl
      have hsb := HNB.out.wr.fresh
      go_upto_region 8 with fail
      have HN2 := Hi (HNB.out.alloc (.cells #[vs [], vs [61], vs [33, 61], vs [60], vs [60, 61], vs [62], vs [62, 61]] 101))
      have hsg := new_at (w := ((w.alloc (.cells #[.pointer (some ⟨p, 0, none⟩)] 100)).alloc (.cells #[.int .i64 3, vs name, .int .i64 (cm : Int), .int .i64 (m : Int), .slice A1 ks.length p1] 24))) (o := .cells #[vs [], vs [61], vs [33, 61], vs [60], vs [60, 61], vs [62], vs [62, 61]] 101) (b := w.heap.size + 1 + 1) (by simp)
      have hsn : ¬ S (w.heap.size + 1 + 1) := by simpa using hsb
      obtain ⟨X, hX⟩ : ∃ X, (((w.alloc (.cells #[.pointer (some ⟨p, 0, none⟩)] 100)).alloc (.cells #[.int .i64 3, vs name, .int .i64 (cm : Int), .int .i64 (m : Int), .slice A1 ks.length p1] 24)).alloc (.cells #[vs [], vs [61], vs [33, 61], vs [60], vs [60, 61], vs [62], vs [62, 61]] 101)) = X := ⟨_, rfl⟩
      rw [hX] at HN2 hsg ⊢
      obtain ⟨x1, x2, x0⟩ := HN2.out.lts
      have xn : X.cell? ⟨w.heap.size + 1, 1, none⟩ = some (vs name) := cOb (o := 1) HN2.out.bx2 rfl
      have HSG := Hi (And.intro hsg hsn)
      clear y1 y2 z0 zn zm hX hsg hsn hsb
      go_still_tail 5, (by kernel_rfl)
      change wpList _ _ _ _ _ X.drew
      go_wp2_with fail
      refine (name_w W _ p T S L N name (HN2.out.wr.keep (Below.refl _ _).drew) (by omega) (by omega)).mono ?_
      rintro e w1 ⟨rfl, S1, hw1, hf1⟩
      have hf1' := (WrFr.of_below S ((Below.refl X.heap.size X).drew)).trans hf1
      obtain ⟨g1, g2⟩ := hf1'.box HSG.out.1 HSG.out.2
      have HSG1 := Hi (And.intro g1 g2)
      have HN3 := Hi (HN2.out.step hw1 hf1')
      clear hw1 hf1 hf1' x1 x2 x0 xn g1 g2
      obtain ⟨x1, x2, x0⟩ := HN3.out.lts
      have xc : w1.cell? ⟨w.heap.size + 1, 2, none⟩ = some (.int .i64 cm) := cOb (o := 2) HN3.out.bx2 rfl
      obtain ⟨sg, hsg⟩ : ∃ sg, signs.getD (cm - 1) [] = sg := ⟨_, rfl⟩
      have HSV : Hid ((#[vs [], vs [61], vs [33, 61], vs [60], vs [60, 61], vs [62], vs [62, 61]] : Array Value)[cm]? = some (vs sg)) := Hi (by
       obtain rfl | rfl | rfl | rfl | rfl | rfl : cm = 1 ∨ cm = 2 ∨ cm = 3 ∨ cm = 4 ∨ cm = 5 ∨ cm = 6 := by omega
       all_goals rw [← hsg]; rfl)
      have xcs : w1.cell? ⟨w.heap.size + 1 + 1, cm, none⟩ = some (vs sg) := cOb HSG1.out.1 HSV.out
      have HSGE := Hi hsg
      have x3 := lHp HSG1.out.1
      have hc0 : (0 : Int) ≤ cm := by omega
      have hc7 : (cm : Int) < 7 := by omega
      clear hsg
      go_wp2_with fail
      go_region_held3 (fun w' => w'.cell? ⟨w.heap.size, 0, none⟩ = some (.pointer (some ⟨p, 0, none⟩)) ∧ w'.cell? ⟨w.heap.size + 1, 2, none⟩ = some (.int .i64 cm) ∧ w'.cell? ⟨w.heap.size + 1 + 1, cm, none⟩ = some (vs sg)) (go_keep) ((go_at_call 27; refine (add_any W _ p T S1 (L ++ [name]) (N ++ [name]) [sg] _ 1 (HN3.out.wr.keep (((Below.refl _ _).alloc (lR _) _).drew)) cells_oned (by simp; omega)).mono ?_; rintro e w2 ⟨rfl, S2, hw2, hf2⟩; have hf2' := (WrFr.of_below S1 (((Below.refl w1.heap.size w1).alloc (lR _) _).drew)).trans hf2; have q3 := cOb (hf2'.box HSG1.out.1 HSG1.out.2).1 HSV.out; have HN4 := Hi (HN3.out.step hw2 hf2'); have q1 := HN4.out.lts.2.2; have q2 := cOb (o := 2) HN4.out.bx2 rfl; clear hw2 hf2 hf2'))
      clear x1 x2 x0 xc xcs x3 q1 q2 q3
      obtain ⟨x1, x2, x0⟩ := HN4.out.lts
      have xm : w2.cell? ⟨w.heap.size + 1, 3, none⟩ = some (.int .i64 m) := cOb (o := 3) HN4.out.bx2 rfl
      go_wp2_with fail
      go_still_tail 5, (by kernel_rfl)
      change wpList _ _ _ _ _ w2.drew
      go_wp2_with fail
      refine (number_w W _ p T S2 (L ++ [name] ++ [sg]) (N ++ [name]) m (HN4.out.wr.keep (Below.refl _ _).drew) (by omega) (by simp; omega) HT.out).mono ?_
      rintro e w5 ⟨rfl, S5, hw5, hf5⟩
      have HN5 := Hi (HN4.out.step hw5 ((WrFr.of_below S2 ((Below.refl w2.heap.size w2).drew)).trans hf5))
      clear hw5 hf5 x1 x2 x0 xm
      go_wp2_with fail
      go_meet
      case rel => exact ⟨rfl, rfl, S5, by have := HN5.out; rw [← HSGE.out] at this; simpa [headF, ownF] using this⟩
    · go_upto_region 12 with fail
      obtain ⟨X, hX⟩ : ∃ X, ((w.alloc (.cells #[.pointer (some ⟨p, 0, none⟩)] 100)).alloc (.cells #[.int .i64 4, vs name, .int .i64 (cm : Int), .int .i64 (m : Int), .slice A1 ks.length p1] 24)) = X := ⟨_, rfl⟩
      rw [hX] at HNB y1 y2 z0 zn zm ⊢
      clear hX
      go_still_tail 5, (by kernel_rfl)
      change wpList _ _ _ _ _ X.drew
      go_wp2_with fail
      refine (name_w W _ p T S L N name (HNB.out.wr.keep (Below.refl _ _).drew) (by omega) (by omega)).mono ?_
      rintro e w1 ⟨rfl, S1, hw1, hf1⟩
      have HN1 := Hi (HNB.out.step hw1 ((WrFr.of_below S ((Below.refl _ _).drew)).trans hf1))
      clear hw1 hf1
      go_wp2_with fail
      go_meet
      case rel => exact ⟨rfl, rfl, S1, by have := HN1.out; simpa [headF, ownF] using this⟩
    · go_wp2_with fail
      refine (word_w W _ p T S L N [110, 111, 116] _ (by simp) HNB.out.wr (by omega)).mono ?_
      rintro e w1 ⟨rfl, S1, hw1, hf1⟩
      have HN1 := Hi (HNB.out.step hw1 hf1)
      clear hw1 hf1
      go_wp2_with fail
      go_meet
      case rel => exact ⟨rfl, rfl, S1, by have := HN1.out; simpa [headF, ownF] using this⟩
    · go_wp2_with fail
      go_meet
      case rel => exact ⟨rfl, rfl, S, by have := HNB.out; simpa [headF, ownF] using this⟩
    · go_wp2_with fail
      go_meet
      case rel => exact ⟨rfl, rfl, S, by have := HNB.out; simpa [headF, ownF] using this⟩
   case rest =>
    obtain ⟨rfl, rfl, S0, hnb⟩ := hcut
    have HNB0 := Hi hnb
    obtain ⟨y1, y2, z0⟩ := hnb.lts
    have zk : wc.cell? ⟨w.heap.size + 1, 4, none⟩ = some (.slice A1 ks.length p1) := cOb (o := 4) hnb.bx2 rfl
    have hlen0 : (headF op name cm m).length ≤ 3 := by
     unfold headF
     repeat' split
     all_goals simp
    have hown0 : (ownF op name).length ≤ 1 := by
     unfold ownF
     split <;> simp
    clear hnb
    go_wp2_with fail
    go_loopw [65] (fun v wr => ∃ k : Nat, k ≤ ks.length ∧ v = .int .i64 k ∧ ∃ S', NB W w wr p T S S' (L ++ headF op name cm m ++ sepW (sepF op) (wFs (decide (op = 7)) (ks.take k))) (N ++ ownF op name ++ namesFs (ks.take k)) w.heap.size (w.heap.size + 1) 100 24 #[.int .i64 oi, vs name, .int .i64 (cm : Int), .int .i64 (m : Int), .slice A1 ks.length p1]) (fun v _ => ks.length - (intOf v).toNat)
    case atStart => exact ⟨0, Nat.zero_le _, rfl, S0, by have := HNB0.out; simpa [wFs, sepW, namesFs] using this⟩
    case round =>
     obtain ⟨k, hk, rfl, S1, hnb1⟩ := hrel
     have HN1 := Hi hnb1
     have HBW := Hi hnb1.wr.below
     obtain ⟨x1, x2, x0⟩ := hnb1.lts
     clear hnb1 y1 y2 z0 zk
     by_cases hlt : k < ks.length
     · obtain ⟨t, ht⟩ := gLt hlt
       have HTK := Hi ht
       have hne : ks ≠ [] := by rintro rfl; simp at hlt
       have hne' : ups ks ≠ [] := by
        intro e
        have := congrArg List.length e
        rw [ups_len] at this
        simp at this
        exact hne this
       obtain ⟨b, q, rfl, hbl, hkd⟩ := HK.out.resolve_left hne'
       obtain ⟨cs, hc, hrx⟩ := hkd.kids ht
       have hst := size_of_kid ht
       have hsk := shapeFs_get HS4.out ht
       have hpl := sep_wF (decide (op = 7)) (sepF op) (ks.take k)
       have hpn := namesFs_le (ks.take k)
       have HSK := Hi hsk
       have HRX := Hi hrx
       obtain ⟨o1, n1, c1, m1, k1⟩ := t
       rw [up] at hrx
       obtain ⟨B1, q1, rfl, -, -⟩ := hrx
       rw [ups_len] at hc HRX
       obtain ⟨kl, hkl⟩ : ∃ kl, k1.length = kl := ⟨_, rfl⟩
       obtain ⟨i1, hi1⟩ : ∃ i1 : Int, (o1 : Int) = i1 := ⟨_, rfl⟩
       obtain ⟨ci, hci⟩ : ∃ ci : Int, (c1 : Int) = ci := ⟨_, rfl⟩
       obtain ⟨mi, hmi⟩ : ∃ mi : Int, (m1 : Int) = mi := ⟨_, rfl⟩
       have HUP : Hid (tcX true (o1 : Int) n1 (c1 : Int) (m1 : Int) (.slice B1 k1.length q1) = [.int .i64 i1, vs n1, .int .i64 ci, .int .i64 mi, .slice B1 kl q1]) := Hi (by rw [hkl, hi1, hci, hmi]; rfl)
       rw [HUP.out] at hc HRX
       have HI1 := Hi hi1
       have z0 : wr.cell? ⟨b, q + k * 5, none⟩ = some (.int .i64 i1) := (HBW.out.cell (p := ⟨b, q + k * 5, none⟩) hbl).trans (hc 0 _ rfl)
       have z1 : wr.cell? ⟨b, q + k * 5 + 1, none⟩ = some (vs n1) := (HBW.out.cell (p := ⟨b, q + k * 5 + 1, none⟩) hbl).trans (hc 1 _ rfl)
       have z2 : wr.cell? ⟨b, q + k * 5 + 2, none⟩ = some (.int .i64 ci) := (HBW.out.cell (p := ⟨b, q + k * 5 + 2, none⟩) hbl).trans (hc 2 _ rfl)
       have z3 : wr.cell? ⟨b, q + k * 5 + 3, none⟩ = some (.int .i64 mi) := (HBW.out.cell (p := ⟨b, q + k * 5 + 3, none⟩) hbl).trans (hc 3 _ rfl)
       have z4 : wr.cell? ⟨b, q + k * 5 + 4, none⟩ = some (.slice B1 kl q1) := (HBW.out.cell (p := ⟨b, q + k * 5 + 4, none⟩) hbl).trans (hc 4 _ rfl)
       have hk1 : (k : Int) < ks.length := by omega
       have hk0 : (0 : Int) ≤ k := by omega
       have hbl' : b < wr.heap.size := by have := HBW.out.size; omega
       have x5 : ¬ S1 wr.heap.size := HN1.out.wr.fresh
       have HX5 := Hi x5
       have HKB : Hid ((wr.alloc (.cells #[.int .i64 i1, vs n1, .int .i64 ci, .int .i64 mi, .slice B1 kl q1] 24)).heap[wr.heap.size]? = some (.cells #[.int .i64 i1, vs n1, .int .i64 ci, .int .i64 mi, .slice B1 kl q1] 24 (0, 0))) := Hi (new_at rfl)
       clear hc hkd hne hne' hkl hi1 hci hmi hsk ht x5
       go_upto_if 71 with fail
       go_cut [6, 65] from 65 to 97 (fun sb si wd => si = .int .i64 k ∧ sb = .pointer (some ⟨wr.heap.size, 0, none⟩) ∧ wd.heap[wr.heap.size]? = some (.cells #[.int .i64 i1, vs n1, .int .i64 ci, .int .i64 mi, .slice B1 kl q1] 24 (0, 0)) ∧ ∃ S2, NB W w wd p T S S2 ((L ++ headF op name cm m ++ sepW (sepF op) (wFs (decide (op = 7)) (ks.take k))) ++ (if k = 0 then [] else [sepF op])) (N ++ ownF op name ++ namesFs (ks.take k)) w.heap.size (w.heap.size + 1) 100 24 #[.int .i64 oi, vs name, .int .i64 (cm : Int), .int .i64 (m : Int), .slice (some ⟨b, q, none⟩) ks.length p1] ∧ ¬ S2 wr.heap.size)
       case first =>
        by_cases hkz : k = 0
        · have hkz' : ¬ (0 : Int) < k := by omega
          have HKZ := Hi hkz
          clear hkz
          go_wp2_with fail
          go_meet
          case rel => exact ⟨rfl, rfl, HKB.out, S1, by rw [if_pos HKZ.out, List.append_nil]; exact HN1.out.alloc _, HX5.out⟩
        · have hkz' : (0 : Int) < k := by omega
          have HKZ := Hi hkz
          have hoo : (op = 6 ∧ oi = 6) ∨ (op = 7 ∧ oi = 7) := by
           have h3 := HS3.out
           have hoi := HOI.out
           rcases h3 with h3 | h3
           · rw [h3] at hlt; simp at hlt
           · omega
          have HN2 := Hi (HN1.out.alloc (.cells #[.int .i64 i1, vs n1, .int .i64 ci, .int .i64 mi, .slice B1 kl q1] 24))
          obtain ⟨X, hX⟩ : ∃ X, wr.alloc (.cells #[.int .i64 i1, vs n1, .int .i64 ci, .int .i64 mi, .slice B1 kl q1] 24) = X := ⟨_, rfl⟩
          rw [hX] at HKB HN2 ⊢
          obtain ⟨q1', q2', q0'⟩ := HN2.out.lts
          have zo := cOb (o := 0) HN2.out.bx2 rfl
          clear hX hkz z0 z1 z2 z3 z4 x1 x2 x0
          rcases hoo with ⟨e1, e2⟩ | ⟨e1, e2⟩
          · have HOE : Hid (sepF op = [97, 110, 100]) := Hi (by rw [e1]; rfl)
            have zo' : X.cell? ⟨w.heap.size + 1, 0, none⟩ = some (.int .i64 6) := by rw [zo]; exact congrArg (fun z => some (Value.int .i64 z)) e2
            have hix : ∀ w, (Instr.index 102 (.agg #[vs [], vs [], vs [], vs [], vs [], vs [], vs [97, 110, 100], vs [111, 114]]) (.int .i64 6)).run Tryz.prog w = .ok (vs [97, 110, 100]) w := fun _ => by kernel_rfl
            clear e1 e2 zo
            go_wp2_with fail
            go_region_held3 (fun w' => w'.cell? ⟨w.heap.size, 0, none⟩ = some (.pointer (some ⟨p, 0, none⟩)) ∧ w'.cell? ⟨w.heap.size + 1, 0, none⟩ = some (.int .i64 6)) (go_keep) ((go_at_call 27; refine (add_any W _ p T S1 (L ++ headF op name cm m ++ sepW (sepF op) (wFs (decide (op = 7)) (ks.take k))) (N ++ ownF op name ++ namesFs (ks.take k)) [[97, 110, 100]] _ 1 (HN2.out.wr.keep (((Below.refl _ _).alloc (lR _) _).drew)) cells_oned (by simp; omega)).mono ?_; rintro e w2 ⟨rfl, S2, hw2, hf2⟩; have hf2' := (WrFr.of_below S1 (((Below.refl X.heap.size X).alloc (lR _) _).drew)).trans hf2; have HB2 := Hi (hf2'.box HKB.out HX5.out); have HN4 := Hi (HN2.out.step hw2 hf2'); have r1 := HN4.out.lts.2.2; have r2 : w2.cell? ⟨w.heap.size + 1, 0, none⟩ = some (.int .i64 6) := ((cOh (hf2'.block _ q2' HN2.out.n2) 0).trans zo'); clear hw2 hf2 hf2'))
            go_wp2_with fail
            go_meet
            case rel => exact ⟨rfl, rfl, HB2.out.1, S2, by have h4 := HN4.out; rw [← HOE.out] at h4; rw [if_neg HKZ.out]; exact h4, HB2.out.2⟩
          · have HOE : Hid (sepF op = [111, 114]) := Hi (by rw [e1]; rfl)
            have zo' : X.cell? ⟨w.heap.size + 1, 0, none⟩ = some (.int .i64 7) := by rw [zo]; exact congrArg (fun z => some (Value.int .i64 z)) e2
            have hix : ∀ w, (Instr.index 102 (.agg #[vs [], vs [], vs [], vs [], vs [], vs [], vs [97, 110, 100], vs [111, 114]]) (.int .i64 7)).run Tryz.prog w = .ok (vs [111, 114]) w := fun _ => by kernel_rfl
            clear e1 e2 zo
            go_wp2_with fail
            go_region_held3 (fun w' => w'.cell? ⟨w.heap.size, 0, none⟩ = some (.pointer (some ⟨p, 0, none⟩)) ∧ w'.cell? ⟨w.heap.size + 1, 0, none⟩ = some (.int .i64 7)) (go_keep) ((go_at_call 27; refine (add_any W _ p T S1 (L ++ headF op name cm m ++ sepW (sepF op) (wFs (decide (op = 7)) (ks.take k))) (N ++ ownF op name ++ namesFs (ks.take k)) [[111, 114]] _ 1 (HN2.out.wr.keep (((Below.refl _ _).alloc (lR _) _).drew)) cells_oned (by simp; omega)).mono ?_; rintro e w2 ⟨rfl, S2, hw2, hf2⟩; have hf2' := (WrFr.of_below S1 (((Below.refl X.heap.size X).alloc (lR _) _).drew)).trans hf2; have HB2 := Hi (hf2'.box HKB.out HX5.out); have HN4 := Hi (HN2.out.step hw2 hf2'); have r1 := HN4.out.lts.2.2; have r2 : w2.cell? ⟨w.heap.size + 1, 0, none⟩ = some (.int .i64 7) := ((cOh (hf2'.block _ q2' HN2.out.n2) 0).trans zo'); clear hw2 hf2 hf2'))
            go_wp2_with fail
            go_meet
            case rel => exact ⟨rfl, rfl, HB2.out.1, S2, by have h4 := HN4.out; rw [← HOE.out] at h4; rw [if_neg HKZ.out]; exact h4, HB2.out.2⟩
       case rest =>
        obtain ⟨rfl, rfl, hkb, S2, hnb2, hn2⟩ := hcut
        have HKB2 := Hi (And.intro hkb hn2)
        have HN5 := Hi hnb2
        obtain ⟨y1, y2, y0⟩ := hnb2.lts
        have zo := cOb (o := 0) hnb2.bx2 rfl
        have zk := cOb (o := 0) hkb rfl
        have y3 := lHp hkb
        have HNX := Hi (next_f (decide (op = 7)) (sepF op) HTK.out)
        have HNY := Hi (namesFs_snoc HTK.out)
        obtain ⟨LP, hLP⟩ : ∃ LP, ((L ++ headF op name cm m ++ sepW (sepF op) (wFs (decide (op = 7)) (ks.take k))) ++ (if k = 0 then [] else [sepF op])) = LP := ⟨_, rfl⟩
        obtain ⟨NP, hNP⟩ : ∃ NP, (N ++ ownF op name ++ namesFs (ks.take k)) = NP := ⟨_, rfl⟩
        have hLPl : LP.length ≤ L.length + 4 + 6 * sizes (ks.take k) := by
         rw [← hLP]
         simp only [List.length_append]
         have : (if k = 0 then ([] : List Bytes) else [sepF op]).length ≤ 1 := by split <;> simp
         omega
        have hNPl : NP.length ≤ N.length + 1 + sizes (ks.take k) := by
         rw [← hNP]
         simp only [List.length_append]
         omega
        rw [hLP, hNP] at HN5
        have HLP := Hi hLP
        have HNP := Hi hNP
        have HREC : Hid (∀ w1 S', Wr W w1 p T S' (LP ++ [wLp]) NP → WrFr S2 S' wc w1 → Calls Tryz.prog 64 #[.pointer (some ⟨w.heap.size, 0, none⟩), .pointer (some ⟨wr.heap.size, 0, none⟩)] w1 (WrPost W w1 p T S' (LP ++ [wLp] ++ wF (.mk o1 n1 c1 m1 k1)) (NP ++ namesF (.mk o1 n1 c1 m1 k1)))) := Hi (fun w1 S' h1 h2 => nclos_f W w1 p T S' L N _ _ _ _ _ _ _ _ _ _ _ _ _ (h2.box HN5.out.bx1 HN5.out.n1).1 (h2.box HKB2.out.1 HKB2.out.2).1 (IH.out (.mk o1 n1 c1 m1 k1) _ w1 p T S' (LP ++ [wLp]) NP (by omega) HSK.out (by simp only [List.length_append, List.length_cons, List.length_nil]; omega) (by omega) HRX.out h1))
        have HREC2 : Hid (Calls Tryz.prog 64 #[.pointer (some ⟨w.heap.size, 0, none⟩), .pointer (some ⟨wr.heap.size, 0, none⟩)] wc (WrPost W wc p T S2 (LP ++ wF (.mk o1 n1 c1 m1 k1)) (NP ++ namesF (.mk o1 n1 c1 m1 k1)))) := Hi (nclos_f W wc p T S2 L N _ _ _ _ _ _ _ _ _ _ _ _ _ HN5.out.bx1 HKB2.out.1 (IH.out (.mk o1 n1 c1 m1 k1) _ wc p T S2 LP NP (by omega) HSK.out (by omega) (by omega) HRX.out HN5.out.wr))
        have hwl := wF_le (.mk o1 n1 c1 m1 k1)
        clear hkb hn2 hnb2 hLP hNP z0 z1 z2 z3 z4 x1 x2 x0
        by_cases k7 : o1 = 7
        · have e1 : (i1 == 7) = true := by have := HI1.out; simp; omega
          have HK7 := Hi k7
          clear k7
          go_wp2_with fail
          refine (inside_t W _ p T S2 LP NP (wF (.mk o1 n1 c1 m1 k1)) (namesF (.mk o1 n1 c1 m1 k1)) 64 _ HN5.out.wr (by omega) (enters Tryz.func64 (by kernel_rfl) rfl) HREC.out).mono ?_
          rintro e w6 ⟨rfl, S6, hw6, hf6⟩
          have HN6 := Hi (HN5.out.step hw6 hf6)
          clear hw6 hf6
          go_wp2_with fail
          refine ⟨⟨k + 1, by omega, by go_num, S6, ?_⟩, by simp [intOf]; omega⟩
          rw [HNX.out, HNY.out]
          have := HN6.out
          rw [← HLP.out, ← HNP.out] at this
          have hwp : wrapW (decide (op = 7)) (.mk o1 n1 c1 m1 k1) 6 7 (wF (.mk o1 n1 c1 m1 k1)) = wLp :: (wF (.mk o1 n1 c1 m1 k1) ++ [wRp]) := by
           unfold wrapW
           rw [if_pos (Or.inl HK7.out)]
          rw [hwp]
          simpa [List.append_assoc] using this
        have e1 : (i1 == 7) = false := by have := HI1.out; simp; omega
        by_cases k6 : o1 = 6
        · have e2 : (i1 == 6) = true := by have := HI1.out; simp; omega
          by_cases o7 : op = 7
          · have e3 : (oi != 7) = false := by have := HOI.out; simp; omega
            have HK7 := Hi (And.intro k7 (And.intro k6 o7))
            clear k7 k6 o7
            go_wp2_with fail
            refine (inside_f W _ p T S2 LP NP (wF (.mk o1 n1 c1 m1 k1)) (namesF (.mk o1 n1 c1 m1 k1)) 64 _ (enters Tryz.func64 (by kernel_rfl) rfl) HREC2.out).mono ?_
            rintro e w6 ⟨rfl, S6, hw6, hf6⟩
            have HN6 := Hi (HN5.out.step hw6 hf6)
            clear hw6 hf6
            go_wp2_with fail
            refine ⟨⟨k + 1, by omega, by go_num, S6, ?_⟩, by simp [intOf]; omega⟩
            rw [HNX.out, HNY.out]
            have := HN6.out
            rw [← HLP.out, ← HNP.out] at this
            have hwp : wrapW (decide (op = 7)) (.mk o1 n1 c1 m1 k1) 6 7 (wF (.mk o1 n1 c1 m1 k1)) = wF (.mk o1 n1 c1 m1 k1) := by
             unfold wrapW
             rw [if_neg (by have := HK7.out.1; have h7 := HK7.out.2.2; simp only [h7]; simp; omega)]
            rw [hwp]
            simpa [List.append_assoc] using this
          · have e3 : (oi != 7) = true := by have := HOI.out; simp; omega
            have HK7 := Hi (And.intro k7 (And.intro k6 o7))
            clear k7 k6 o7
            go_wp2_with fail
            refine (inside_t W _ p T S2 LP NP (wF (.mk o1 n1 c1 m1 k1)) (namesF (.mk o1 n1 c1 m1 k1)) 64 _ HN5.out.wr (by omega) (enters Tryz.func64 (by kernel_rfl) rfl) HREC.out).mono ?_
            rintro e w6 ⟨rfl, S6, hw6, hf6⟩
            have HN6 := Hi (HN5.out.step hw6 hf6)
            clear hw6 hf6
            go_wp2_with fail
            refine ⟨⟨k + 1, by omega, by go_num, S6, ?_⟩, by simp [intOf]; omega⟩
            rw [HNX.out, HNY.out]
            have := HN6.out
            rw [← HLP.out, ← HNP.out] at this
            have hwp : wrapW (decide (op = 7)) (.mk o1 n1 c1 m1 k1) 6 7 (wF (.mk o1 n1 c1 m1 k1)) = wLp :: (wF (.mk o1 n1 c1 m1 k1) ++ [wRp]) := by
             unfold wrapW
             rw [if_pos (Or.inr ⟨HK7.out.2.1, decide_eq_false HK7.out.2.2⟩)]
            rw [hwp]
            simpa [List.append_assoc] using this
        · have e2 : (i1 == 6) = false := by have := HI1.out; simp; omega
          have HK7 := Hi (And.intro k7 k6)
          clear k7 k6
          go_wp2_with fail
          refine (inside_f W _ p T S2 LP NP (wF (.mk o1 n1 c1 m1 k1)) (namesF (.mk o1 n1 c1 m1 k1)) 64 _ (enters Tryz.func64 (by kernel_rfl) rfl) HREC2.out).mono ?_
          rintro e w6 ⟨rfl, S6, hw6, hf6⟩
          have HN6 := Hi (HN5.out.step hw6 hf6)
          clear hw6 hf6
          go_wp2_with fail
          refine ⟨⟨k + 1, by omega, by go_num, S6, ?_⟩, by simp [intOf]; omega⟩
          rw [HNX.out, HNY.out]
          have := HN6.out
          rw [← HLP.out, ← HNP.out] at this
          have hwp : wrapW (decide (op = 7)) (.mk o1 n1 c1 m1 k1) 6 7 (wF (.mk o1 n1 c1 m1 k1)) = wF (.mk o1 n1 c1 m1 k1) := by
           unfold wrapW
           rw [if_neg (by have := HK7.out.1; have := HK7.out.2; simp only [Tree.op]; omega)]
          rw [hwp]
          simpa [List.append_assoc] using this
     · have hk' : k = ks.length := by omega
       subst hk'
       have hlt2 : ¬ ((ks.length : Nat) : Int) < ks.length := by omega
       have HEND := Hi (HN1.out.post (L' := L ++ wF (.mk op name cm m ks)) (N' := N ++ namesF (.mk op name cm m ks)) (by rw [HWF.out, List.take_length, List.append_assoc]) (by rw [HNF.out, List.take_length, List.append_assoc]))
       go_wp2_with fail
       go_end0
       exact HEND.out
end Go.Proofs.YtbicmjmcdnkjhaaGreatDoor
