/- (*northern).start writes a condition. -/
import Derived.Test.YtbicmjmcdnkjhaaGreatDoorJMM1
import Derived.Test.YtbicmjmcdnkjhaaGreatDoorJMM9
import Derived.Test.YtbicmjmcdnkjhaaGreatDoorJMM8
import Derived.Deep.CutRange
import Derived.StillTailTactics
import Derived.Deep.RegionHeld3
import Derived.Deep.DrawnRows
set_option linter.unusedVariables false
set_option linter.unusedSimpArgs false
set_option maxRecDepth 20000
set_option maxHeartbeats 16000000
namespace Go.Proofs.YtbicmjmcdnkjhaaGreatDoor
open Go.RowKit
attribute [local go_sem ↓] Go.wp_at_zero Go.wp_at_succ
def headS (op : Nat) (name : Bytes) (n : Nat) : List Bytes := if op = 1 then [[97, 108, 119, 97, 121, 115]] else if op = 2 then [[110, 101, 118, 101, 114]] else if op = 3 then [[100, 97, 121], dec n] else if op = 4 ∨ op = 5 ∨ op = 6 ∨ op = 7 then [startW.getD op [], name] else []
def ownS (op : Nat) (name : Bytes) : List Bytes := if op = 4 ∨ op = 5 ∨ op = 6 ∨ op = 7 then [name] else []
def sepS (op : Nat) : Bytes := if op = 9 then wOr else wAnd
theorem shapeS_op {op : Nat} {name : Bytes} {cm m : Nat} {ks : List Tree} (h : shapeS (.mk op name cm m ks) = true) : (op = 1 ∨ op = 2 ∨ op = 3 ∨ op = 4 ∨ op = 5 ∨ op = 6 ∨ op = 7 ∨ op = 8 ∨ op = 9) ∧ m ≤ 1000000 ∧ (ks = [] ∨ op = 8 ∨ op = 9) ∧ shapeSs ks = true := by
 rw [shapeS] at h
 simp only [Bool.and_eq_true] at h
 obtain ⟨⟨⟨⟨h0, h1⟩, h2⟩, h3⟩, h4⟩ := h
 refine ⟨?_, ?_, ?_, h4⟩
 · split at h3
   · omega
   · split at h3
     · omega
     · cases h3
 · split at h1 <;> simp at h1 <;> omega
 · split at h3
   · omega
   · split at h3
     · exact Or.inl (by simpa using h3)
     · cases h3
theorem wS_parts {op : Nat} {name : Bytes} {cm m : Nat} {ks : List Tree} (h : shapeS (.mk op name cm m ks) = true) : wS (.mk op name cm m ks) = headS op name m ++ sepW (sepS op) (wSs (decide (op = 9)) ks) := by
 obtain ⟨h1, -, h3, -⟩ := shapeS_op h
 rw [wS]
 unfold headS sepS
 rcases h3 with rfl | rfl | rfl
 · rcases h1 with rfl | rfl | rfl | rfl | rfl | rfl | rfl | rfl | rfl <;> simp [wSs, sepW]
 · simp
 · simp
theorem nclos_s (W w1 : World) (p : Nat) (T : TypeId) (S1 : Nat → Prop) (L N X Y : List Bytes) (bw bk k1 q1 : Nat) (o1 : Int) (n1 : List UInt8) (d1 m1 : Int) (B1 : Option Addr) (Tp Tf : TypeId) (h1 : w1.heap[bw]? = some (.cells #[.pointer (some ⟨p, 0, none⟩)] Tp (0, 0))) (h2 : w1.heap[bk]? = some (.cells #[.int .i64 o1, vs n1, .int .i64 m1, .slice B1 k1 q1] Tf (0, 0)))
 (hc : Calls Tryz.prog 31 #[.pointer (some ⟨p, 0, none⟩), .agg #[.int .i64 o1, vs n1, .int .i64 m1, .slice B1 k1 q1]] w1 (WrPost W w1 p T S1 X Y)) : Calls Tryz.prog 65 #[.pointer (some ⟨bw, 0, none⟩), .pointer (some ⟨bk, 0, none⟩)] w1 (WrPost W w1 p T S1 X Y) := by
 have z : w1.cell? ⟨bw, 0, none⟩ = some (.pointer (some ⟨p, 0, none⟩)) := cOb h1 rfl
 have z0 : w1.cell? ⟨bk, 0, none⟩ = some (.int .i64 o1) := cOb h2 rfl
 have z1 : w1.cell? ⟨bk, 1, none⟩ = some (vs n1) := cOb h2 rfl
 have z2 : w1.cell? ⟨bk, 2, none⟩ = some (.int .i64 m1) := cOb h2 rfl
 have z3 : w1.cell? ⟨bk, 3, none⟩ = some (.slice B1 k1 q1) := cOb h2 rfl
 have y1 := lHp h1
 have y2 := lHp h2
 have HC := Hi hc
 clear h1 h2 hc
 go_enter Tryz.func65, Tryz.ntmps65
 go_wp2_with fail
 refine HC.out.mono ?_
 rintro e w3 ⟨rfl, S', hw, hf⟩
 have HW := Hi hw
 have HF := Hi hf
 clear hw hf
 go_wp2_with fail
 go_end0
 exact ⟨rfl, S', HW.out, HF.out⟩
theorem next_s (b : Bool) (sp : Bytes) {ks : List Tree} {k : Nat} {t : Tree} (h : ks[k]? = some t) : sepW sp (wSs b (ks.take (k + 1))) = sepW sp (wSs b (ks.take k)) ++ ((if k = 0 then [] else [sp]) ++ wrapW b t 8 9 (wS t)) := by
 have hk := (List.getElem?_eq_some_iff.1 h).1
 rw [wSs_snoc b h, sepW_snoc]
 congr 2
 cases k with
 | zero => simp [wSs]
 | succ k =>
   have : wSs b (ks.take (k + 1)) ≠ [] := by
    intro e
    have := congrArg List.length e
    rw [wSs_len, List.length_take, List.length_nil] at this
    omega
   rw [if_neg this, if_neg (by omega)]
theorem nstart_any (W : World) (ht : Tabs W) : ∀ (M : Nat) (t : Tree) (cs : List Value) (w : World) (p : Nat) (T : TypeId) (S : Nat → Prop) (L N : List Bytes), t.size ≤ M → shapeS t = true → L.length + 6 * t.size ≤ 900000 → N.length + t.size ≤ 900000 → RdX false W cs (up t) → Wr W w p T S L N →
 Calls Tryz.prog 31 #[.pointer (some ⟨p, 0, none⟩), .agg cs.toArray] w (WrPost W w p T S (L ++ wS t) (N ++ namesS t)) := by
 intro M
 induction M with
 | zero =>
   intro t cs w p T S L N hM
   have := tree_pos t
   omega
 | succ M ih =>
   intro t cs w p T S L N hM hs hl1 hl2 hr hw
   have IH := Hi ih
   obtain ⟨op, name, cm, m, ks⟩ := t
   rw [up] at hr
   obtain ⟨A1, p1, rfl, -, hk1⟩ := hr
   have HK := Hi hk1
   rw [ups_len] at *
   have hkn := len_sizes ks
   simp only [Tree.size] at hM hl1 hl2
   simp only [tcX]
   obtain ⟨oi, hoi⟩ : ∃ oi : Int, (op : Int) = oi := ⟨_, rfl⟩
   rw [hoi]
   have HNB : Hid (NB W w ((w.alloc (.cells #[.pointer (some ⟨p, 0, none⟩)] 100)).alloc (.cells #[.int .i64 oi, vs name, .int .i64 (m : Int), .slice A1 ks.length p1] 28)) p T S S L N w.heap.size (w.heap.size + 1) 100 28 #[.int .i64 oi, vs name, .int .i64 (m : Int), .slice A1 ks.length p1]) := Hi (NB.start hw)
   obtain ⟨s1, s2, s3, s4⟩ := shapeS_op hs
   have HS2 := Hi s2
   have HS3 := Hi s3
   have HS4 := Hi s4
   have HWF := Hi (wS_parts hs)
   have HNF : Hid (namesS (.mk op name cm m ks) = ownS op name ++ namesSs ks) := Hi (by rw [namesS]; rfl)
   have HT := Hi ht
   have hop : (op = 1 ∧ oi = 1) ∨ (op = 2 ∧ oi = 2) ∨ (op = 3 ∧ oi = 3) ∨ (op = 4 ∧ oi = 4) ∨ (op = 5 ∧ oi = 5) ∨ (op = 6 ∧ oi = 6) ∨ (op = 7 ∧ oi = 7) ∨ (op = 8 ∧ oi = 8) ∨ (op = 9 ∧ oi = 9) := by omega
   have HOI := Hi hoi
   clear ih hk1 hs hw ht s1 s2 s3 s4 hoi
   have hmf : ∀ (fn : Fn) (first cap : Array Value) (w : World), (Instr.makeFunc fn first cap).run Tryz.prog w = .ok (.func fn first cap) w := fun _ _ _ _ => rfl
   go_enter Tryz.func31, Tryz.ntmps31
   go_upto_block 0 with fail
   go_cut [2, 3] from 0 (fun s2 s3 wc => s2 = .pointer (some ⟨w.heap.size, 0, none⟩) ∧ s3 = .pointer (some ⟨w.heap.size + 1, 0, none⟩) ∧ ∃ S', NB W w wc p T S S' (L ++ headS op name m) (N ++ ownS op name) w.heap.size (w.heap.size + 1) 100 28 #[.int .i64 oi, vs name, .int .i64 (m : Int), .slice A1 ks.length p1])
   case first =>
    obtain ⟨y1, y2, z0⟩ := HNB.out.lts
    have zn := cOb (o := 1) HNB.out.bx2 rfl
    have zm := cOb (o := 2) HNB.out.bx2 rfl
    rcases hop with ⟨rfl, rfl⟩ | ⟨rfl, rfl⟩ | ⟨rfl, rfl⟩ | ⟨rfl, rfl⟩ | ⟨rfl, rfl⟩ | ⟨rfl, rfl⟩ | ⟨rfl, rfl⟩ | ⟨rfl, rfl⟩ | ⟨rfl, rfl⟩
    · go_wp2_with fail
      refine (word_w W _ p T S L N [97, 108, 119, 97, 121, 115] _ (by simp) HNB.out.wr (by omega)).mono ?_
      rintro e w1 ⟨rfl, S1, hw1, hf1⟩
      have HN1 := Hi (HNB.out.step hw1 hf1)
      clear hw1 hf1
      go_wp2_with fail
      go_meet
      case rel => exact ⟨rfl, rfl, S1, by have := HN1.out; simpa [headS, ownS] using this⟩
    · go_wp2_with fail
      refine (word_w W _ p T S L N [110, 101, 118, 101, 114] _ (by simp) HNB.out.wr (by omega)).mono ?_
      rintro e w1 ⟨rfl, S1, hw1, hf1⟩
      have HN1 := Hi (HNB.out.step hw1 hf1)
      clear hw1 hf1
      go_wp2_with fail
      go_meet
      case rel => exact ⟨rfl, rfl, S1, by have := HN1.out; simpa [headS, ownS] using this⟩
    · go_wp2_with fail
      refine (word_w W _ p T S L N [100, 97, 121] _ (by simp) HNB.out.wr (by omega)).mono ?_
      rintro e w1 ⟨rfl, S1, hw1, hf1⟩
      have HN1 := Hi (HNB.out.step hw1 hf1)
      clear hw1 hf1
      obtain ⟨x1, x2, x0⟩ := HN1.out.lts
      have xm : w1.cell? ⟨w.heap.size + 1, 2, none⟩ = some (.int .i64 m) := cOb (o := 2) HN1.out.bx2 rfl
      have hmm := HS2.out
      clear y1 y2 z0 zn zm
      go_wp2_with fail
      go_still_tail 5, (by kernel_rfl)
      change wpList _ _ _ _ _ w1.drew
      go_wp2_with fail
      refine (number_w W _ p T S1 (L ++ [[100, 97, 121]]) N m (HN1.out.wr.keep (Below.refl _ _).drew) (by omega) (by simp; omega) HT.out).mono ?_
      rintro e w5 ⟨rfl, S5, hw5, hf5⟩
      have HN5 := Hi (HN1.out.step hw5 ((WrFr.of_below S1 ((Below.refl w1.heap.size w1).drew)).trans hf5))
      clear hw5 hf5 x1 x2 x0 xm
      go_wp2_with fail
      go_meet
      case rel => exact ⟨rfl, rfl, S5, by have := HN5.out; simpa [headS, ownS] using this⟩
    · have zo := cOb (o := 0) HNB.out.bx2 rfl
      have hix : ∀ w, (Instr.index 102 (.agg #[vs [], vs [], vs [], vs [], vs [111, 114, 100, 101, 114], vs [101, 118, 101, 110, 116], vs [98, 101, 103, 117, 110], vs [111, 118, 101, 114]]) (.int .i64 4)).run Tryz.prog w = .ok (vs [111, 114, 100, 101, 114]) w := fun _ => by kernel_rfl
      go_wp2_with fail
      obtain ⟨X, hX⟩ : ∃ X, ((w.alloc (.cells #[.pointer (some ⟨p, 0, none⟩)] 100)).alloc (.cells #[.int .i64 4, vs name, .int .i64 (m : Int), .slice A1 ks.length p1] 28)) = X := ⟨_, rfl⟩
      rw [hX] at HNB y1 y2 z0 zn zm zo ⊢
      clear hX
      go_region_held3 (fun w' => w'.cell? ⟨w.heap.size, 0, none⟩ = some (.pointer (some ⟨p, 0, none⟩)) ∧ w'.cell? ⟨w.heap.size + 1, 0, none⟩ = some (.int .i64 4)) (go_keep) ((go_at_call 27; refine (add_any W _ p T S L N [[111, 114, 100, 101, 114]] _ 1 (HNB.out.wr.keep (((Below.refl _ _).alloc (lR _) _).drew)) cells_oned (by simp; omega)).mono ?_; rintro e w2 ⟨rfl, S2, hw2, hf2⟩; have HN4 := Hi (HNB.out.step hw2 ((WrFr.of_below S (((Below.refl X.heap.size X).alloc (lR _) _).drew)).trans hf2)); have q1 := HN4.out.lts.2.2; have q2 := cOb (o := 0) HN4.out.bx2 rfl; clear hw2 hf2))
      clear y1 y2 z0 zn zm zo q1 q2
      obtain ⟨x1, x2, x0⟩ := HN4.out.lts
      have xn : w2.cell? ⟨w.heap.size + 1, 1, none⟩ = some (vs name) := cOb (o := 1) HN4.out.bx2 rfl
      go_wp2_with fail
      go_still_tail 5, (by kernel_rfl)
      change wpList _ _ _ _ _ w2.drew
      go_wp2_with fail
      refine (name_w W _ p T S2 (L ++ [[111, 114, 100, 101, 114]]) N name (HN4.out.wr.keep (Below.refl _ _).drew) (by simp; omega) (by omega)).mono ?_
      rintro e w5 ⟨rfl, S5, hw5, hf5⟩
      have HN5 := Hi (HN4.out.step hw5 ((WrFr.of_below S2 ((Below.refl w2.heap.size w2).drew)).trans hf5))
      clear hw5 hf5 x1 x2 x0 xn
      go_wp2_with fail
      go_meet
      case rel => exact ⟨rfl, rfl, S5, by have := HN5.out; simpa [headS, ownS, startW] using this⟩
    · have zo := cOb (o := 0) HNB.out.bx2 rfl
      have hix : ∀ w, (Instr.index 102 (.agg #[vs [], vs [], vs [], vs [], vs [111, 114, 100, 101, 114], vs [101, 118, 101, 110, 116], vs [98, 101, 103, 117, 110], vs [111, 118, 101, 114]]) (.int .i64 5)).run Tryz.prog w = .ok (vs [101, 118, 101, 110, 116]) w := fun _ => by kernel_rfl
      go_wp2_with fail
      obtain ⟨X, hX⟩ : ∃ X, ((w.alloc (.cells #[.pointer (some ⟨p, 0, none⟩)] 100)).alloc (.cells #[.int .i64 5, vs name, .int .i64 (m : Int), .slice A1 ks.length p1] 28)) = X := ⟨_, rfl⟩
      rw [hX] at HNB y1 y2 z0 zn zm zo ⊢
      clear hX
      go_region_held3 (fun w' => w'.cell? ⟨w.heap.size, 0, none⟩ = some (.pointer (some ⟨p, 0, none⟩)) ∧ w'.cell? ⟨w.heap.size + 1, 0, none⟩ = some (.int .i64 5)) (go_keep) ((go_at_call 27; refine (add_any W _ p T S L N [[101, 118, 101, 110, 116]] _ 1 (HNB.out.wr.keep (((Below.refl _ _).alloc (lR _) _).drew)) cells_oned (by simp; omega)).mono ?_; rintro e w2 ⟨rfl, S2, hw2, hf2⟩; have HN4 := Hi (HNB.out.step hw2 ((WrFr.of_below S (((Below.refl X.heap.size X).alloc (lR _) _).drew)).trans hf2)); have q1 := HN4.out.lts.2.2; have q2 := cOb (o := 0) HN4.out.bx2 rfl; clear hw2 hf2))
      clear y1 y2 z0 zn zm zo q1 q2
      obtain ⟨x1, x2, x0⟩ := HN4.out.lts
      have xn : w2.cell? ⟨w.heap.size + 1, 1, none⟩ = some (vs name) := cOb (o := 1) HN4.out.bx2 rfl
      go_wp2_with fail
      go_still_tail 5, (by kernel_rfl)
      change wpList _ _ _ _ _ w2.drew
      go_wp2_with fail
      refine (name_w W _ p T S2 (L ++ [[101, 118, 101, 110, 116]]) N name (HN4.out.wr.keep (Below.refl _ _).drew) (by simp; omega) (by omega)).mono ?_
      rintro e w5 ⟨rfl, S5, hw5, hf5⟩
      have HN5 := Hi (HN4.out.step hw5 ((WrFr.of_below S2 ((Below.refl w2.heap.size w2).drew)).trans hf5))
      clear hw5 hf5 x1 x2 x0 xn
      go_wp2_with fail
      go_meet
      case rel => exact ⟨rfl, rfl, S5, by have := HN5.out; simpa [headS, ownS, startW] using this⟩
    · have zo := cOb (o := 0) HNB.out.bx2 rfl
      have hix : ∀ w, (Instr.index 102 (.agg #[vs [], vs [], vs [], vs [], vs [111, 114, 100, 101, 114], vs [101, 118, 101, 110, 116], vs [98, 101, 103, 117, 110], vs [111, 118, 101, 114]]) (.int .i64 6)).run Tryz.prog w = .ok (vs [98, 101, 103, 117, 110]) w := fun _ => by kernel_rfl
      go_wp2_with fail
      obtain ⟨X, hX⟩ : ∃ X, ((w.alloc (.cells #[.pointer (some ⟨p, 0, none⟩)] 100)).alloc (.cells #[.int .i64 6, vs name, .int .i64 (m : Int), .slice A1 ks.length p1] 28)) = X := ⟨_, rfl⟩
      rw [hX] at HNB y1 y2 z0 zn zm zo ⊢
      clear hX
      go_region_held3 (fun w' => w'.cell? ⟨w.heap.size, 0, none⟩ = some (.pointer (some ⟨p, 0, none⟩)) ∧ w'.cell? ⟨w.heap.size + 1, 0, none⟩ = some (.int .i64 6)) (go_keep) ((go_at_call 27; refine (add_any W _ p T S L N [[98, 101, 103, 117, 110]] _ 1 (HNB.out.wr.keep (((Below.refl _ _).alloc (lR _) _).drew)) cells_oned (by simp; omega)).mono ?_; rintro e w2 ⟨rfl, S2, hw2, hf2⟩; have HN4 := Hi (HNB.out.step hw2 ((WrFr.of_below S (((Below.refl X.heap.size X).alloc (lR _) _).drew)).trans hf2)); have q1 := HN4.out.lts.2.2; have q2 := cOb (o := 0) HN4.out.bx2 rfl; clear hw2 hf2))
      clear y1 y2 z0 zn zm zo q1 q2
      obtain ⟨x1, x2, x0⟩ := HN4.out.lts
      have xn : w2.cell? ⟨w.heap.size + 1, 1, none⟩ = some (vs name) := cOb (o := 1) HN4.out.bx2 rfl
      go_wp2_with fail
      go_still_tail 5, (by kernel_rfl)
      change wpList _ _ _ _ _ w2.drew
      go_wp2_with fail
      refine (name_w W _ p T S2 (L ++ [[98, 101, 103, 117, 110]]) N name (HN4.out.wr.keep (Below.refl _ _).drew) (by simp; omega) (by omega)).mono ?_
      rintro e w5 ⟨rfl, S5, hw5, hf5⟩
      have HN5 := Hi (HN4.out.step hw5 ((WrFr.of_below S2 ((Below.refl w2.heap.size w2).drew)).trans hf5))
      clear hw5 hf5 x1 x2 x0 xn
      go_wp2_with fail
      go_meet
      case rel => exact ⟨rfl, rfl, S5, by have := HN5.out; simpa [headS, ownS, startW] using this⟩
    · have zo := cOb (o := 0) HNB.out.bx2 rfl
      have hix : ∀ w, (Instr.index 102 (.agg #[vs [], vs [], vs [], vs [], vs [111, 114, 100, 101, 114], vs [101, 118, 101, 110, 116], vs [98, 101, 103, 117, 110], vs [111, 118, 101, 114]]) (.int .i64 7)).run Tryz.prog w = .ok (vs [111, 118, 101, 114]) w := fun _ => by kernel_rfl
      go_wp2_with fail
      obtain ⟨X, hX⟩ : ∃ X, ((w.alloc (.cells #[.pointer (some ⟨p, 0, none⟩)] 100)).alloc (.cells #[.int .i64 7, vs name, .int .i64 (m : Int), .slice A1 ks.length p1] 28)) = X := ⟨_, rfl⟩
      rw [hX] at HNB y1 y2 z0 zn zm zo ⊢
      clear hX
      go_region_held3 (fun w' => w'.cell? ⟨w.heap.size, 0, none⟩ = some (.pointer (some ⟨p, 0, none⟩)) ∧ w'.cell? ⟨w.heap.size + 1, 0, none⟩ = some (.int .i64 7)) (go_keep) ((go_at_call 27; refine (add_any W _ p T S L N [[111, 118, 101, 114]] _ 1 (HNB.out.wr.keep (((Below.refl _ _).alloc (lR _) _).drew)) cells_oned (by simp; omega)).mono ?_; rintro e w2 ⟨rfl, S2, hw2, hf2⟩; have HN4 := Hi (HNB.out.step hw2 ((WrFr.of_below S (((Below.refl X.heap.size X).alloc (lR _) _).drew)).trans hf2)); have q1 := HN4.out.lts.2.2; have q2 := cOb (o := 0) HN4.out.bx2 rfl; clear hw2 hf2))
      clear y1 y2 z0 zn zm zo q1 q2
      obtain ⟨x1, x2, x0⟩ := HN4.out.lts
      have xn : w2.cell? ⟨w.heap.size + 1, 1, none⟩ = some (vs name) := cOb (o := 1) HN4.out.bx2 rfl
      go_wp2_with fail
      go_still_tail 5, (by kernel_rfl)
      change wpList _ _ _ _ _ w2.drew
      go_wp2_with fail
      refine (name_w W _ p T S2 (L ++ [[111, 118, 101, 114]]) N name (HN4.out.wr.keep (Below.refl _ _).drew) (by simp; omega) (by omega)).mono ?_
      rintro e w5 ⟨rfl, S5, hw5, hf5⟩
      have HN5 := Hi (HN4.out.step hw5 ((WrFr.of_below S2 ((Below.refl w2.heap.size w2).drew)).trans hf5))
      clear hw5 hf5 x1 x2 x0 xn
      go_wp2_with fail
      go_meet
      case rel => exact ⟨rfl, rfl, S5, by have := HN5.out; simpa [headS, ownS, startW] using this⟩
    · go_wp2_with fail
      go_meet
      case rel => exact ⟨rfl, rfl, S, by have := HNB.out; simpa [headS, ownS] using this⟩
    · go_wp2_with fail
      go_meet
      case rel => exact ⟨rfl, rfl, S, by have := HNB.out; simpa [headS, ownS] using this⟩
   case rest =>
    obtain ⟨rfl, rfl, S0, hnb⟩ := hcut
    have HNB0 := Hi hnb
    obtain ⟨y1, y2, z0⟩ := hnb.lts
    have zk : wc.cell? ⟨w.heap.size + 1, 3, none⟩ = some (.slice A1 ks.length p1) := cOb (o := 3) hnb.bx2 rfl
    have hlen0 : (headS op name m).length ≤ 3 := by
     unfold headS
     repeat' split
     all_goals simp
    have hown0 : (ownS op name).length ≤ 1 := by
     unfold ownS
     split <;> simp
    clear hnb
    go_wp2_with fail
    go_loopw [58] (fun v wr => ∃ k : Nat, k ≤ ks.length ∧ v = .int .i64 k ∧ ∃ S', NB W w wr p T S S' (L ++ headS op name m ++ sepW (sepS op) (wSs (decide (op = 9)) (ks.take k))) (N ++ ownS op name ++ namesSs (ks.take k)) w.heap.size (w.heap.size + 1) 100 28 #[.int .i64 oi, vs name, .int .i64 (m : Int), .slice A1 ks.length p1]) (fun v _ => ks.length - (intOf v).toNat)
    case atStart => exact ⟨0, Nat.zero_le _, rfl, S0, by have := HNB0.out; simpa [wSs, sepW, namesSs] using this⟩
    case round =>
     obtain ⟨k, hk, rfl, S1, hnb1⟩ := hrel
     have HN1 := Hi hnb1
     have HBW := Hi hnb1.wr.below
     obtain ⟨x1, x2, x0⟩ := hnb1.lts
     clear hnb1 y1 y2 z0 zk
     by_cases hlt : k < ks.length
     · obtain ⟨t, ht⟩ := gLt hlt
       have HTK := Hi ht
       have hne : ks ≠ [] := by rintro rfl; simp at hlt
       have hne' : ups ks ≠ [] := by
        intro e
        have := congrArg List.length e
        rw [ups_len] at this
        simp at this
        exact hne this
       obtain ⟨b, q, rfl, hbl, hkd⟩ := HK.out.resolve_left hne'
       obtain ⟨cs, hc, hrx⟩ := hkd.kids ht
       have hst := size_of_kid ht
       have hsk := shapeSs_get HS4.out ht
       have hpl := sep_wS (decide (op = 9)) (sepS op) (ks.take k)
       have hpn := namesSs_le (ks.take k)
       have HSK := Hi hsk
       have HRX := Hi hrx
       obtain ⟨o1, n1, c1, m1, k1⟩ := t
       rw [up] at hrx
       obtain ⟨B1, q1, rfl, -, -⟩ := hrx
       rw [ups_len] at hc HRX
       obtain ⟨kl, hkl⟩ : ∃ kl, k1.length = kl := ⟨_, rfl⟩
       obtain ⟨i1, hi1⟩ : ∃ i1 : Int, (o1 : Int) = i1 := ⟨_, rfl⟩
       obtain ⟨mi, hmi⟩ : ∃ mi : Int, (m1 : Int) = mi := ⟨_, rfl⟩
       have HUP : Hid (tcX false (o1 : Int) n1 (c1 : Int) (m1 : Int) (.slice B1 k1.length q1) = [.int .i64 i1, vs n1, .int .i64 mi, .slice B1 kl q1]) := Hi (by rw [hkl, hi1, hmi]; rfl)
       rw [HUP.out] at hc HRX
       have HI1 := Hi hi1
       have z0 : wr.cell? ⟨b, q + k * 4, none⟩ = some (.int .i64 i1) := (HBW.out.cell (p := ⟨b, q + k * 4, none⟩) hbl).trans (hc 0 _ rfl)
       have z1 : wr.cell? ⟨b, q + k * 4 + 1, none⟩ = some (vs n1) := (HBW.out.cell (p := ⟨b, q + k * 4 + 1, none⟩) hbl).trans (hc 1 _ rfl)
       have z2 : wr.cell? ⟨b, q + k * 4 + 2, none⟩ = some (.int .i64 mi) := (HBW.out.cell (p := ⟨b, q + k * 4 + 2, none⟩) hbl).trans (hc 2 _ rfl)
       have z3 : wr.cell? ⟨b, q + k * 4 + 3, none⟩ = some (.slice B1 kl q1) := (HBW.out.cell (p := ⟨b, q + k * 4 + 3, none⟩) hbl).trans (hc 3 _ rfl)
       have hk1 : (k : Int) < ks.length := by omega
       have hk0 : (0 : Int) ≤ k := by omega
       have hbl' : b < wr.heap.size := by have := HBW.out.size; omega
       have x5 : ¬ S1 wr.heap.size := HN1.out.wr.fresh
       have HX5 := Hi x5
       have HKB : Hid ((wr.alloc (.cells #[.int .i64 i1, vs n1, .int .i64 mi, .slice B1 kl q1] 28)).heap[wr.heap.size]? = some (.cells #[.int .i64 i1, vs n1, .int .i64 mi, .slice B1 kl q1] 28 (0, 0))) := Hi (new_at rfl)
       clear hc hkd hne hne' hkl hi1 hmi hsk ht x5
       go_upto_if 64 with fail
       go_cut [5, 58] from 58 to 90 (fun sb si wd => si = .int .i64 k ∧ sb = .pointer (some ⟨wr.heap.size, 0, none⟩) ∧ wd.heap[wr.heap.size]? = some (.cells #[.int .i64 i1, vs n1, .int .i64 mi, .slice B1 kl q1] 28 (0, 0)) ∧ ∃ S2, NB W w wd p T S S2 ((L ++ headS op name m ++ sepW (sepS op) (wSs (decide (op = 9)) (ks.take k))) ++ (if k = 0 then [] else [sepS op])) (N ++ ownS op name ++ namesSs (ks.take k)) w.heap.size (w.heap.size + 1) 100 28 #[.int .i64 oi, vs name, .int .i64 (m : Int), .slice (some ⟨b, q, none⟩) ks.length p1] ∧ ¬ S2 wr.heap.size)
       case first =>
        by_cases hkz : k = 0
        · have hkz' : ¬ (0 : Int) < k := by omega
          have HKZ := Hi hkz
          clear hkz
          go_wp2_with fail
          go_meet
          case rel => exact ⟨rfl, rfl, HKB.out, S1, by rw [if_pos HKZ.out, List.append_nil]; exact HN1.out.alloc _, HX5.out⟩
        · have hkz' : (0 : Int) < k := by omega
          have HKZ := Hi hkz
          have hoo : (op = 8 ∧ oi = 8) ∨ (op = 9 ∧ oi = 9) := by
           have h3 := HS3.out
           have hoi := HOI.out
           rcases h3 with h3 | h3
           · rw [h3] at hlt; simp at hlt
           · omega
          have HN2 := Hi (HN1.out.alloc (.cells #[.int .i64 i1, vs n1, .int .i64 mi, .slice B1 kl q1] 28))
          obtain ⟨X, hX⟩ : ∃ X, wr.alloc (.cells #[.int .i64 i1, vs n1, .int .i64 mi, .slice B1 kl q1] 28) = X := ⟨_, rfl⟩
          rw [hX] at HKB HN2 ⊢
          obtain ⟨q1', q2', q0'⟩ := HN2.out.lts
          have zo := cOb (o := 0) HN2.out.bx2 rfl
          clear hX hkz z0 z1 z2 z3 x1 x2 x0
          rcases hoo with ⟨e1, e2⟩ | ⟨e1, e2⟩
          · have HOE : Hid (sepS op = [97, 110, 100]) := Hi (by rw [e1]; rfl)
            have zo' : X.cell? ⟨w.heap.size + 1, 0, none⟩ = some (.int .i64 8) := by rw [zo]; exact congrArg (fun z => some (Value.int .i64 z)) e2
            have hix : ∀ w, (Instr.index 104 (.agg #[vs [], vs [], vs [], vs [], vs [], vs [], vs [], vs [], vs [97, 110, 100], vs [111, 114]]) (.int .i64 8)).run Tryz.prog w = .ok (vs [97, 110, 100]) w := fun _ => by kernel_rfl
            clear e1 e2 zo
            go_wp2_with fail
            go_region_held3 (fun w' => w'.cell? ⟨w.heap.size, 0, none⟩ = some (.pointer (some ⟨p, 0, none⟩)) ∧ w'.cell? ⟨w.heap.size + 1, 0, none⟩ = some (.int .i64 8)) (go_keep) ((go_at_call 27; refine (add_any W _ p T S1 (L ++ headS op name m ++ sepW (sepS op) (wSs (decide (op = 9)) (ks.take k))) (N ++ ownS op name ++ namesSs (ks.take k)) [[97, 110, 100]] _ 1 (HN2.out.wr.keep (((Below.refl _ _).alloc (lR _) _).drew)) cells_oned (by simp; omega)).mono ?_; rintro e w2 ⟨rfl, S2, hw2, hf2⟩; have hf2' := (WrFr.of_below S1 (((Below.refl X.heap.size X).alloc (lR _) _).drew)).trans hf2; have HB2 := Hi (hf2'.box HKB.out HX5.out); have HN4 := Hi (HN2.out.step hw2 hf2'); have r1 := HN4.out.lts.2.2; have r2 : w2.cell? ⟨w.heap.size + 1, 0, none⟩ = some (.int .i64 8) := ((cOh (hf2'.block _ q2' HN2.out.n2) 0).trans zo'); clear hw2 hf2 hf2'))
            go_wp2_with fail
            go_meet
            case rel => exact ⟨rfl, rfl, HB2.out.1, S2, by have h4 := HN4.out; rw [← HOE.out] at h4; rw [if_neg HKZ.out]; exact h4, HB2.out.2⟩
          · have HOE : Hid (sepS op = [111, 114]) := Hi (by rw [e1]; rfl)
            have zo' : X.cell? ⟨w.heap.size + 1, 0, none⟩ = some (.int .i64 9) := by rw [zo]; exact congrArg (fun z => some (Value.int .i64 z)) e2
            have hix : ∀ w, (Instr.index 104 (.agg #[vs [], vs [], vs [], vs [], vs [], vs [], vs [], vs [], vs [97, 110, 100], vs [111, 114]]) (.int .i64 9)).run Tryz.prog w = .ok (vs [111, 114]) w := fun _ => by kernel_rfl
            clear e1 e2 zo
            go_wp2_with fail
            go_region_held3 (fun w' => w'.cell? ⟨w.heap.size, 0, none⟩ = some (.pointer (some ⟨p, 0, none⟩)) ∧ w'.cell? ⟨w.heap.size + 1, 0, none⟩ = some (.int .i64 9)) (go_keep) ((go_at_call 27; refine (add_any W _ p T S1 (L ++ headS op name m ++ sepW (sepS op) (wSs (decide (op = 9)) (ks.take k))) (N ++ ownS op name ++ namesSs (ks.take k)) [[111, 114]] _ 1 (HN2.out.wr.keep (((Below.refl _ _).alloc (lR _) _).drew)) cells_oned (by simp; omega)).mono ?_; rintro e w2 ⟨rfl, S2, hw2, hf2⟩; have hf2' := (WrFr.of_below S1 (((Below.refl X.heap.size X).alloc (lR _) _).drew)).trans hf2; have HB2 := Hi (hf2'.box HKB.out HX5.out); have HN4 := Hi (HN2.out.step hw2 hf2'); have r1 := HN4.out.lts.2.2; have r2 : w2.cell? ⟨w.heap.size + 1, 0, none⟩ = some (.int .i64 9) := ((cOh (hf2'.block _ q2' HN2.out.n2) 0).trans zo'); clear hw2 hf2 hf2'))
            go_wp2_with fail
            go_meet
            case rel => exact ⟨rfl, rfl, HB2.out.1, S2, by have h4 := HN4.out; rw [← HOE.out] at h4; rw [if_neg HKZ.out]; exact h4, HB2.out.2⟩
       case rest =>
        obtain ⟨rfl, rfl, hkb, S2, hnb2, hn2⟩ := hcut
        have HKB2 := Hi (And.intro hkb hn2)
        have HN5 := Hi hnb2
        obtain ⟨y1, y2, y0⟩ := hnb2.lts
        have zo := cOb (o := 0) hnb2.bx2 rfl
        have zk := cOb (o := 0) hkb rfl
        have y3 := lHp hkb
        have HNX := Hi (next_s (decide (op = 9)) (sepS op) HTK.out)
        have HNY := Hi (namesSs_snoc HTK.out)
        obtain ⟨LP, hLP⟩ : ∃ LP, ((L ++ headS op name m ++ sepW (sepS op) (wSs (decide (op = 9)) (ks.take k))) ++ (if k = 0 then [] else [sepS op])) = LP := ⟨_, rfl⟩
        obtain ⟨NP, hNP⟩ : ∃ NP, (N ++ ownS op name ++ namesSs (ks.take k)) = NP := ⟨_, rfl⟩
        have hLPl : LP.length ≤ L.length + 4 + 6 * sizes (ks.take k) := by
         rw [← hLP]
         simp only [List.length_append]
         have : (if k = 0 then ([] : List Bytes) else [sepS op]).length ≤ 1 := by split <;> simp
         omega
        have hNPl : NP.length ≤ N.length + 1 + sizes (ks.take k) := by
         rw [← hNP]
         simp only [List.length_append]
         omega
        rw [hLP, hNP] at HN5
        have HLP := Hi hLP
        have HNP := Hi hNP
        have HREC : Hid (∀ w1 S', Wr W w1 p T S' (LP ++ [wLp]) NP → WrFr S2 S' wc w1 → Calls Tryz.prog 65 #[.pointer (some ⟨w.heap.size, 0, none⟩), .pointer (some ⟨wr.heap.size, 0, none⟩)] w1 (WrPost W w1 p T S' (LP ++ [wLp] ++ wS (.mk o1 n1 c1 m1 k1)) (NP ++ namesS (.mk o1 n1 c1 m1 k1)))) := Hi (fun w1 S' h1 h2 => nclos_s W w1 p T S' L N _ _ _ _ _ _ _ _ 0 _ _ _ _ (h2.box HN5.out.bx1 HN5.out.n1).1 (h2.box HKB2.out.1 HKB2.out.2).1 (IH.out (.mk o1 n1 c1 m1 k1) _ w1 p T S' (LP ++ [wLp]) NP (by omega) HSK.out (by simp only [List.length_append, List.length_cons, List.length_nil]; omega) (by omega) HRX.out h1))
        have HREC2 : Hid (Calls Tryz.prog 65 #[.pointer (some ⟨w.heap.size, 0, none⟩), .pointer (some ⟨wr.heap.size, 0, none⟩)] wc (WrPost W wc p T S2 (LP ++ wS (.mk o1 n1 c1 m1 k1)) (NP ++ namesS (.mk o1 n1 c1 m1 k1)))) := Hi (nclos_s W wc p T S2 L N _ _ _ _ _ _ _ _ 0 _ _ _ _ HN5.out.bx1 HKB2.out.1 (IH.out (.mk o1 n1 c1 m1 k1) _ wc p T S2 LP NP (by omega) HSK.out (by omega) (by omega) HRX.out HN5.out.wr))
        have hwl := wS_le (.mk o1 n1 c1 m1 k1)
        clear hkb hn2 hnb2 hLP hNP z0 z1 z2 z3 x1 x2 x0
        by_cases k7 : o1 = 9
        · have e1 : (i1 == 9) = true := by have := HI1.out; simp; omega
          have HK7 := Hi k7
          clear k7
          go_wp2_with fail
          refine (inside_t W _ p T S2 LP NP (wS (.mk o1 n1 c1 m1 k1)) (namesS (.mk o1 n1 c1 m1 k1)) 65 _ HN5.out.wr (by omega) (enters Tryz.func65 (by kernel_rfl) rfl) HREC.out).mono ?_
          rintro e w6 ⟨rfl, S6, hw6, hf6⟩
          have HN6 := Hi (HN5.out.step hw6 hf6)
          clear hw6 hf6
          go_wp2_with fail
          refine ⟨⟨k + 1, by omega, by go_num, S6, ?_⟩, by simp [intOf]; omega⟩
          rw [HNX.out, HNY.out]
          have := HN6.out
          rw [← HLP.out, ← HNP.out] at this
          have hwp : wrapW (decide (op = 9)) (.mk o1 n1 c1 m1 k1) 8 9 (wS (.mk o1 n1 c1 m1 k1)) = wLp :: (wS (.mk o1 n1 c1 m1 k1) ++ [wRp]) := by
           unfold wrapW
           rw [if_pos (Or.inl HK7.out)]
          rw [hwp]
          simpa [List.append_assoc] using this
        have e1 : (i1 == 9) = false := by have := HI1.out; simp; omega
        by_cases k6 : o1 = 8
        · have e2 : (i1 == 8) = true := by have := HI1.out; simp; omega
          by_cases o7 : op = 9
          · have e3 : (oi != 9) = false := by have := HOI.out; simp; omega
            have HK7 := Hi (And.intro k7 (And.intro k6 o7))
            clear k7 k6 o7
            go_wp2_with fail
            refine (inside_f W _ p T S2 LP NP (wS (.mk o1 n1 c1 m1 k1)) (namesS (.mk o1 n1 c1 m1 k1)) 65 _ (enters Tryz.func65 (by kernel_rfl) rfl) HREC2.out).mono ?_
            rintro e w6 ⟨rfl, S6, hw6, hf6⟩
            have HN6 := Hi (HN5.out.step hw6 hf6)
            clear hw6 hf6
            go_wp2_with fail
            refine ⟨⟨k + 1, by omega, by go_num, S6, ?_⟩, by simp [intOf]; omega⟩
            rw [HNX.out, HNY.out]
            have := HN6.out
            rw [← HLP.out, ← HNP.out] at this
            have hwp : wrapW (decide (op = 9)) (.mk o1 n1 c1 m1 k1) 8 9 (wS (.mk o1 n1 c1 m1 k1)) = wS (.mk o1 n1 c1 m1 k1) := by
             unfold wrapW
             rw [if_neg (by have := HK7.out.1; have h7 := HK7.out.2.2; simp only [h7]; simp; omega)]
            rw [hwp]
            simpa [List.append_assoc] using this
          · have e3 : (oi != 9) = true := by have := HOI.out; simp; omega
            have HK7 := Hi (And.intro k7 (And.intro k6 o7))
            clear k7 k6 o7
            go_wp2_with fail
            refine (inside_t W _ p T S2 LP NP (wS (.mk o1 n1 c1 m1 k1)) (namesS (.mk o1 n1 c1 m1 k1)) 65 _ HN5.out.wr (by omega) (enters Tryz.func65 (by kernel_rfl) rfl) HREC.out).mono ?_
            rintro e w6 ⟨rfl, S6, hw6, hf6⟩
            have HN6 := Hi (HN5.out.step hw6 hf6)
            clear hw6 hf6
            go_wp2_with fail
            refine ⟨⟨k + 1, by omega, by go_num, S6, ?_⟩, by simp [intOf]; omega⟩
            rw [HNX.out, HNY.out]
            have := HN6.out
            rw [← HLP.out, ← HNP.out] at this
            have hwp : wrapW (decide (op = 9)) (.mk o1 n1 c1 m1 k1) 8 9 (wS (.mk o1 n1 c1 m1 k1)) = wLp :: (wS (.mk o1 n1 c1 m1 k1) ++ [wRp]) := by
             unfold wrapW
             rw [if_pos (Or.inr ⟨HK7.out.2.1, decide_eq_false HK7.out.2.2⟩)]
            rw [hwp]
            simpa [List.append_assoc] using this
        · have e2 : (i1 == 8) = false := by have := HI1.out; simp; omega
          have HK7 := Hi (And.intro k7 k6)
          clear k7 k6
          go_wp2_with fail
          refine (inside_f W _ p T S2 LP NP (wS (.mk o1 n1 c1 m1 k1)) (namesS (.mk o1 n1 c1 m1 k1)) 65 _ (enters Tryz.func65 (by kernel_rfl) rfl) HREC2.out).mono ?_
          rintro e w6 ⟨rfl, S6, hw6, hf6⟩
          have HN6 := Hi (HN5.out.step hw6 hf6)
          clear hw6 hf6
          go_wp2_with fail
          refine ⟨⟨k + 1, by omega, by go_num, S6, ?_⟩, by simp [intOf]; omega⟩
          rw [HNX.out, HNY.out]
          have := HN6.out
          rw [← HLP.out, ← HNP.out] at this
          have hwp : wrapW (decide (op = 9)) (.mk o1 n1 c1 m1 k1) 8 9 (wS (.mk o1 n1 c1 m1 k1)) = wS (.mk o1 n1 c1 m1 k1) := by
           unfold wrapW
           rw [if_neg (by have := HK7.out.1; have := HK7.out.2; simp only [Tree.op]; omega)]
          rw [hwp]
          simpa [List.append_assoc] using this
     · have hk' : k = ks.length := by omega
       subst hk'
       have hlt2 : ¬ ((ks.length : Nat) : Int) < ks.length := by omega
       have HEND := Hi (HN1.out.post (L' := L ++ wS (.mk op name cm m ks)) (N' := N ++ namesS (.mk op name cm m ks)) (by rw [HWF.out, List.take_length, List.append_assoc]) (by rw [HNF.out, List.take_length, List.append_assoc]))
       go_wp2_with fail
       go_end0
       exact HEND.out
end Go.Proofs.YtbicmjmcdnkjhaaGreatDoor
