/- A writer, its own blocks left aside: what each call adds to it. printer.North: a round of its second loop: one start is written. printer.North: its first loop: the exceptions are written. -/
import Derived.Test.YtbicmjmcdnkjhaaGreatDoorJMM1
import Derived.Test.YtbicmjmcdnkjhaaGreatDoorJMM9
import Derived.Test.YtbicmjmcdnkjhaaGreatDoorJMM11
import Derived.Test.YtbicmjmcdnkjhaaGreatDoorJMM12
import Derived.Test.YtbicmjmcdnkjhaaGreatDoorJMM28
import Derived.Test.YtbicmjmcdnkjhaaGreatDoorJMM14
import Derived.Test.YtbicmjmcdnkjhaaGreatDoorJMM18
import Derived.Deep.CutRange
import Derived.StillTailTactics
import Derived.Deep.MidRow
import Derived.Deep.RegionHeld3
set_option linter.unusedVariables false
set_option linter.unusedSimpArgs false
namespace Go.Proofs.YtbicmjmcdnkjhaaGreatDoor
open Go.RowKit
structure St (W w : World) (p : Nat) (T : TypeId) (L N : List Bytes) : Prop where
 wr : ∃ S, Wr W w p T S L N
theorem St.below {W w : World} {p : Nat} {T : TypeId} {L N : List Bytes} (h : St W w p T L N) : Below W.heap.size W w := by obtain ⟨S, h⟩ := h.wr; exact h.below
theorem St.keep {W w w' : World} {p : Nat} {T : TypeId} {L N : List Bytes} (h : St W w p T L N) (hb : Below w.heap.size w w') : St W w' p T L N := by obtain ⟨S, h⟩ := h.wr; exact ⟨S, h.keep hb⟩
theorem St.alloc {W w : World} {p : Nat} {T : TypeId} {L N : List Bytes} (h : St W w p T L N) (o : Obj) : St W (w.alloc o) p T L N := h.keep (belowA w o)
theorem St.lt {W w : World} {p : Nat} {T : TypeId} {L N : List Bytes} (h : St W w p T L N) : W.heap.size ≤ p ∧ p < w.heap.size := by
 obtain ⟨S, h⟩ := h.wr
 obtain ⟨v1, v2, h⟩ := h
 exact ⟨h.lo p h.mem, h.lt p h.mem⟩
def StPost (W : World) (p : Nat) (T : TypeId) (L N : List Bytes) (e : Ending) (w' : World) : Prop := e = .returned (.tuple #[]) ∧ St W w' p T L N
theorem St.of {W w : World} {p : Nat} {T : TypeId} {S : Nat → Prop} {L N : List Bytes} {f : FuncId} {args : Array Value} (h : Calls Tryz.prog f args w (WrPost W w p T S L N)) : Calls Tryz.prog f args w (StPost W p T L N) := by
 refine h.mono ?_
 rintro e w' ⟨rfl, S', h, -⟩
 exact ⟨rfl, S', h⟩
theorem St.of' {W w w0 : World} {p : Nat} {T : TypeId} {S : Nat → Prop} {L N : List Bytes} {f : FuncId} {args : Array Value} (h : Calls Tryz.prog f args w (WrPost W w0 p T S L N)) : Calls Tryz.prog f args w (StPost W p T L N) := by
 refine h.mono ?_
 rintro e w' ⟨rfl, S', h, -⟩
 exact ⟨rfl, S', h⟩
theorem word_s (W w : World) (p : Nat) (T : TypeId) (L N : List Bytes) (s : Bytes) (g : Nat) (hg : g = w.heap.size) (h : St W w p T L N) (hlen : L.length ≤ 900000) :
 Calls Tryz.prog 27 #[.pointer (some ⟨p, 0, none⟩), .slice (some ⟨g, 0, none⟩) 1 1] (w.alloc (.cells #[vs s] 9)) (StPost W p T (L ++ [s]) N) := by
 obtain ⟨S, h⟩ := h.wr
 exact St.of' (word_w W w p T S L N s g hg h (by omega))
theorem name_s (W w : World) (p : Nat) (T : TypeId) (L N : List Bytes) (s : Bytes) (h : St W w p T L N) (hlen : L.length ≤ 900000) (hlen2 : N.length ≤ 900000) :
 Calls Tryz.prog 28 #[.pointer (some ⟨p, 0, none⟩), vs s] w (StPost W p T (L ++ [s]) (N ++ [s])) := by
 obtain ⟨S, h⟩ := h.wr
 exact St.of (name_w W w p T S L N s h (by omega) (by omega))
theorem number_s (W w : World) (p : Nat) (T : TypeId) (L N : List Bytes) (n : Nat) (h : St W w p T L N) (hn : n ≤ 1000000) (hlen : L.length ≤ 900000) (ht : Tabs W) :
 Calls Tryz.prog 29 #[.pointer (some ⟨p, 0, none⟩), .int .i64 (n : Int)] w (StPost W p T (L ++ [dec n]) N) := by
 obtain ⟨S, h⟩ := h.wr
 exact St.of (number_w W w p T S L N n h (by omega) (by omega) ht)
theorem cond_s (W w : World) (ht : Tabs W) (t : Tree) (cs : List Value) (p : Nat) (T : TypeId) (L N : List Bytes) (hs : shapeF t = true) (hsz : t.size ≤ 1000) (h1 : L.length ≤ 100000) (h2 : N.length ≤ 100000) (hr : RdX true W cs (up t)) (h : St W w p T L N) :
 Calls Tryz.prog 30 #[.pointer (some ⟨p, 0, none⟩), .agg cs.toArray] w (StPost W p T (L ++ wF t) (N ++ namesF t)) := by
 obtain ⟨S, h⟩ := h.wr
 exact St.of (north_any W ht t.size t cs w p T S L N (lR _) hs (by omega) (by omega) hr h)
theorem start_s (W w : World) (ht : Tabs W) (t : Tree) (cs : List Value) (p : Nat) (T : TypeId) (L N : List Bytes) (hs : shapeS t = true) (hsz : t.size ≤ 1000) (h1 : L.length ≤ 100000) (h2 : N.length ≤ 100000) (hr : RdX false W cs (up t)) (h : St W w p T L N) :
 Calls Tryz.prog 31 #[.pointer (some ⟨p, 0, none⟩), .agg cs.toArray] w (StPost W p T (L ++ wS t) (N ++ namesS t)) := by
 obtain ⟨S, h⟩ := h.wr
 exact St.of (nstart_any W ht t.size t cs w p T S L N (lR _) hs (by omega) (by omega) hr h)
structure StB (W w : World) (p : Nat) (T : TypeId) (L N : List Bytes) (b : Nat) (O : Obj) : Prop where
 wr : ∃ S, Wr W w p T S L N ∧ ¬ S b
 blk : w.heap[b]? = some O
theorem StB.st {W w : World} {p : Nat} {T : TypeId} {L N : List Bytes} {b : Nat} {O : Obj} (h : StB W w p T L N b O) : St W w p T L N := by obtain ⟨S, h, -⟩ := h.wr; exact ⟨S, h⟩
theorem St.box {W w : World} {p : Nat} {T : TypeId} {L N : List Bytes} (h : St W w p T L N) (C : Array Value) (t : TypeId) : StB W (w.alloc (.cells C t)) p T L N w.heap.size (.cells C t (0, 0)) := by
 obtain ⟨S, h⟩ := h.wr
 exact ⟨⟨S, h.alloc _, h.fresh⟩, heap_alloc_new w _⟩
theorem word_b (W w : World) (p : Nat) (T : TypeId) (L N : List Bytes) (s : Bytes) (g b : Nat) (O : Obj) (hg : g = w.heap.size) (h : StB W w p T L N b O) (hlen : L.length ≤ 900000) :
 Calls Tryz.prog 27 #[.pointer (some ⟨p, 0, none⟩), .slice (some ⟨g, 0, none⟩) 1 1] (w.alloc (.cells #[vs s] 9)) fun e w' => e = .returned (.tuple #[]) ∧ StB W w' p T (L ++ [s]) N b O := by
 obtain ⟨S, hw, hn⟩ := h.wr
 refine (word_w W w p T S L N s g hg hw (by omega)).mono ?_
 rintro e w' ⟨rfl, S', hw', hf⟩
 obtain ⟨g1, g2⟩ := hf.box h.blk hn
 exact ⟨rfl, ⟨S', hw', g2⟩, g1⟩
theorem St.start (w : World) (T : TypeId) : St w (w.alloc (.cells #[.slice none 0 0, .slice none 0 0] T)) w.heap.size T [] [] :=
 ⟨fun k => k = w.heap.size, .slice none 0 0, .slice none 0 0, ⟨heap_alloc_new w _, OwnS.nil, OwnS.nil, fun b hb => by simp [Value.ownBlock] at hb, fun b hb => by simp [Value.ownBlock] at hb, rfl, fun k hk => by subst hk; simp, fun k hk => by omega, belowA w _⟩⟩
end Go.Proofs.YtbicmjmcdnkjhaaGreatDoor
set_option maxRecDepth 100000
set_option maxHeartbeats 4000000
namespace Go.Proofs.YtbicmjmcdnkjhaaGreatDoor
open Go.RowKit
attribute [local go_sem ↓] Go.wp_at_zero Go.wp_at_succ
def loopsOf : Code → List Code
 | .loop c => [c]
 | .seq a b => loopsOf a ++ loopsOf b
 | .block _ c => loopsOf c
 | .scope c => loopsOf c
 | .cond _ a b => loopsOf a ++ loopsOf b
 | _ => []
noncomputable def nbody (i : Nat) : Code := (Tryz.f12.body.bind fun c => (loopsOf c)[i]?).getD .skip
theorem start_triv {o : Nat} {nm : Bytes} {d m : Nat} {ks : List Tree} (h : shapeS (.mk o nm d m ks) = true) (ho : o = 1 ∨ o = 2) : namesS (.mk o nm d m ks) = [] := by
 rw [shapeS] at h
 simp only [Bool.and_eq_true] at h
 have h2 : ks = [] := by
  rcases ho with rfl | rfl <;> simpa using h.1.2
 subst h2
 rcases ho with rfl | rfl <;> simp [namesS, namesSs]
theorem form_triv {nm : Bytes} {d m : Nat} {ks : List Tree} (h : shapeF (.mk 1 nm d m ks) = true) : namesF (.mk 1 nm d m ks) = [] := by
 rw [shapeF] at h
 simp only [Bool.and_eq_true] at h
 have h2 : ks = [] := by simpa using h.1.2
 subst h2
 simp [namesF, namesFs]
theorem part_le (b : Bool) (w : Bytes) (l : List Bytes) : (partW b w l).length ≤ l.length + 1 := by
 unfold partW
 split <;> simp
/- which start: the number of the round, what is absent, the word ahead -/
def Turn (k tri : Nat) (kw : Bytes) : Prop := k = 0 ∧ tri = 1 ∧ kw = wFrom ∨ k = 1 ∧ tri = 2 ∧ kw = wUntil ∨ k = 2 ∧ tri = 2 ∧ kw = wAgain
theorem nround (Q : Exit → Act → World → Prop) (W wr : World) (pb : Nat) (L N : List Bytes) (k tri : Nat) (kw : Bytes) (o : Nat) (nm : Bytes) (d m : Nat) (K : Option Addr) (ks : List Tree) (q : Nat) (A : Array Value) (hk : Turn k tri kw)
 (hix : ∀ w, (Instr.index 59 (.agg A) (.int .i64 k)).run Tryz.prog w = .ok (.agg #[.int .i64 o, vs nm, .int .i64 m, .slice K (ups ks).length q]) w) (ht : Tabs W)
 (hr : RdX false W [.int .i64 o, vs nm, .int .i64 m, .slice K (ups ks).length q] (up (.mk o nm d m ks))) (hs : shapeS (.mk o nm d m ks) = true) (hsz : (Tree.mk o nm d m ks).size ≤ 1000) (hL : L.length ≤ 12000) (hN : N.length ≤ 4000) (hS : St W wr W.heap.size 52 L N)
 (u0 u2 u3 u5 u6 u7 u8 u9 u10 u11 u12 u13 u14 u15 u16 u17 u18 u19 u20 u21 u22 u23 u24 u25 u26 u27 u28 u29 u30 u31 u32 u33 u34 u35 u36 u37 u38 u39 u40 u41 u42 u43 u44 u45 u46 u47 u48 u49 u50 u51 u52 u53 u54 u55 u56 u57 u58 u59 u60 u61 u62 u63 u64 u65 u66 u67 u68 u69 u70 u71 u72 u73 u74 u75 u76 u77 u78 u79 u80 u81 u82 u83 u84 u85 u86 u89 u90 u91 u92 u93 u94 u95 u96 u97 u98 u99 u100 u101 u102 u103 u104 u105 u106 u107 u108 u109 u110 u111 u112 u113 u114 u115 u116 u117 u118 u119 u120 u121 u122 : Value)
 (hend : ∀ (v7 v8 v9 v89 v90 v91 v92 v93 v94 v95 v96 v97 v98 v99 v100 v101 v102 v103 v104 v105 v106 : Value) (w' : World), St W w' W.heap.size 52 (L ++ partW (o != tri) kw (wS (.mk o nm d m ks))) (N ++ namesS (.mk o nm d m ks)) → Q .normal ⟨#[u0, .pointer (some ⟨pb, 0, none⟩), u2, u3, .pointer (some ⟨W.heap.size, 0, none⟩), u5, u6, v7, v8, v9, u10, u11, u12, u13, u14, u15, u16, u17, u18, u19, u20, u21, u22, u23, u24, u25, u26, u27, u28, u29, u30, u31, u32, u33, u34, u35, u36, u37, u38, u39, u40, u41, u42, u43, u44, u45, u46, u47, u48, u49, u50, u51, u52, u53, u54, u55, u56, u57, u58, u59, u60, u61, u62, u63, u64, u65, u66, u67, u68, u69, u70, u71, u72, u73, u74, u75, u76, u77, u78, u79, u80, u81, u82, u83, u84, u85, u86, .agg A, .int .i64 (k + 1), v89, v90, v91, v92, v93, v94, v95, v96, v97, v98, v99, v100, v101, v102, v103, v104, v105, v106, u107, u108, u109, u110, u111, u112, u113, u114, u115, u116, u117, u118, u119, u120, u121, u122], []⟩ w') :
 Code.wp Tryz.prog (nbody 1) Q ⟨#[u0, .pointer (some ⟨pb, 0, none⟩), u2, u3, .pointer (some ⟨W.heap.size, 0, none⟩), u5, u6, u7, u8, u9, u10, u11, u12, u13, u14, u15, u16, u17, u18, u19, u20, u21, u22, u23, u24, u25, u26, u27, u28, u29, u30, u31, u32, u33, u34, u35, u36, u37, u38, u39, u40, u41, u42, u43, u44, u45, u46, u47, u48, u49, u50, u51, u52, u53, u54, u55, u56, u57, u58, u59, u60, u61, u62, u63, u64, u65, u66, u67, u68, u69, u70, u71, u72, u73, u74, u75, u76, u77, u78, u79, u80, u81, u82, u83, u84, u85, u86, .agg A, .int .i64 k, u89, u90, u91, u92, u93, u94, u95, u96, u97, u98, u99, u100, u101, u102, u103, u104, u105, u106, u107, u108, u109, u110, u111, u112, u113, u114, u115, u116, u117, u118, u119, u120, u121, u122], []⟩ wr := by
 have HS := Hi hS
 have HE := Hi hend
 have HR := Hi hr
 have HT := Hi ht
 have HSH := Hi hs
 have HSZ := Hi hsz
 clear hS hend hr ht hs hsz
 conv => arg 2; whnf
 rcases hk with ⟨rfl, rfl, rfl⟩ | ⟨rfl, rfl, rfl⟩ | ⟨rfl, rfl, rfl⟩
 · rw [show ((0 : Nat) : Int) = (0 : Int) from rfl] at *
   go_upto_region 26 with fail
   have hSB := HS.out.box #[.int .i64 o, vs nm, .int .i64 m, .slice K (ups ks).length q] 28
   have d0 := cOb (o := 0) hSB.blk rfl
   have dl := lHp hSB.blk
   have HSB0 := Hi hSB
   clear hSB HS hix
   by_cases hop : o = 1
   · subst hop
     have HN0 := Hi (start_triv HSH.out (by decide))
     go_wp2_with fail
     exact HE.out _ _ _ _ _ _ _ _ _ _ _ _ _ _ _ _ _ _ _ _ _ _ (by rw [HN0.out]; have := HSB0.out.st; simpa [partW] using this)
   · have hop2 : ¬ ((o : Int) = 1) := by omega
     have HOP := Hi hop
     clear hop
     have hi3 : ∀ w, (Instr.index 60 (.agg #[vs [102, 114, 111, 109], vs [117, 110, 116, 105, 108], vs [97, 103, 97, 105, 110]]) (.int .i64 0)).run Tryz.prog w = .ok (vs wFrom) w := fun _ => by kernel_rfl
     go_wp2_with (first | (go_at_call 27; refine (word_b W _ _ _ _ _ _ _ _ _ (by simp) HSB0.out (by omega)).mono ?_; rintro e w9 ⟨rfl, hSB⟩; clear d0 dl; have d0 := cOb (o := 0) hSB.blk rfl; have d1 := cOb (o := 1) hSB.blk rfl; have d2 := cOb (o := 2) hSB.blk rfl; have d3 := cOb (o := 3) hSB.blk rfl; have dl := lHp hSB.blk; have HSB := Hi hSB; clear hSB) | (go_at_call 31; refine (start_s W _ HT.out _ _ _ _ _ _ HSH.out HSZ.out (by simp; omega) (by omega) HR.out HSB.out.st).mono ?_; rintro e w8 ⟨rfl, hS⟩; have HS8 := Hi hS; clear hS))
     exact HE.out _ _ _ _ _ _ _ _ _ _ _ _ _ _ _ _ _ _ _ _ _ _ (by have := HS8.out; rw [show partW (o != 1) wFrom (wS (.mk o nm d m ks)) = wFrom :: wS (.mk o nm d m ks) by unfold partW; rw [if_pos (by simpa using HOP.out)]]; simpa using this)
 · rw [show ((1 : Nat) : Int) = (1 : Int) from rfl] at *
   go_upto_region 26 with fail
   have hSB := HS.out.box #[.int .i64 o, vs nm, .int .i64 m, .slice K (ups ks).length q] 28
   have d0 := cOb (o := 0) hSB.blk rfl
   have dl := lHp hSB.blk
   have HSB0 := Hi hSB
   clear hSB HS hix
   by_cases hop : o = 2
   · subst hop
     have HN0 := Hi (start_triv HSH.out (by decide))
     go_wp2_with fail
     exact HE.out _ _ _ _ _ _ _ _ _ _ _ _ _ _ _ _ _ _ _ _ _ _ (by rw [HN0.out]; have := HSB0.out.st; simpa [partW] using this)
   · have hop2 : ¬ ((o : Int) = 2) := by omega
     have HOP := Hi hop
     clear hop
     have hi3 : ∀ w, (Instr.index 60 (.agg #[vs [102, 114, 111, 109], vs [117, 110, 116, 105, 108], vs [97, 103, 97, 105, 110]]) (.int .i64 1)).run Tryz.prog w = .ok (vs wUntil) w := fun _ => by kernel_rfl
     go_wp2_with (first | (go_at_call 27; refine (word_b W _ _ _ _ _ _ _ _ _ (by simp) HSB0.out (by omega)).mono ?_; rintro e w9 ⟨rfl, hSB⟩; clear d0 dl; have d0 := cOb (o := 0) hSB.blk rfl; have d1 := cOb (o := 1) hSB.blk rfl; have d2 := cOb (o := 2) hSB.blk rfl; have d3 := cOb (o := 3) hSB.blk rfl; have dl := lHp hSB.blk; have HSB := Hi hSB; clear hSB) | (go_at_call 31; refine (start_s W _ HT.out _ _ _ _ _ _ HSH.out HSZ.out (by simp; omega) (by omega) HR.out HSB.out.st).mono ?_; rintro e w8 ⟨rfl, hS⟩; have HS8 := Hi hS; clear hS))
     exact HE.out _ _ _ _ _ _ _ _ _ _ _ _ _ _ _ _ _ _ _ _ _ _ (by have := HS8.out; rw [show partW (o != 2) wUntil (wS (.mk o nm d m ks)) = wUntil :: wS (.mk o nm d m ks) by unfold partW; rw [if_pos (by simpa using HOP.out)]]; simpa using this)
 · rw [show ((2 : Nat) : Int) = (2 : Int) from rfl] at *
   go_upto_region 26 with fail
   have hSB := HS.out.box #[.int .i64 o, vs nm, .int .i64 m, .slice K (ups ks).length q] 28
   have d0 := cOb (o := 0) hSB.blk rfl
   have dl := lHp hSB.blk
   have HSB0 := Hi hSB
   clear hSB HS hix
   by_cases hop : o = 2
   · subst hop
     have HN0 := Hi (start_triv HSH.out (by decide))
     go_wp2_with fail
     exact HE.out _ _ _ _ _ _ _ _ _ _ _ _ _ _ _ _ _ _ _ _ _ _ (by rw [HN0.out]; have := HSB0.out.st; simpa [partW] using this)
   · have hop2 : ¬ ((o : Int) = 2) := by omega
     have HOP := Hi hop
     clear hop
     have hi3 : ∀ w, (Instr.index 60 (.agg #[vs [102, 114, 111, 109], vs [117, 110, 116, 105, 108], vs [97, 103, 97, 105, 110]]) (.int .i64 2)).run Tryz.prog w = .ok (vs wAgain) w := fun _ => by kernel_rfl
     go_wp2_with (first | (go_at_call 27; refine (word_b W _ _ _ _ _ _ _ _ _ (by simp) HSB0.out (by omega)).mono ?_; rintro e w9 ⟨rfl, hSB⟩; clear d0 dl; have d0 := cOb (o := 0) hSB.blk rfl; have d1 := cOb (o := 1) hSB.blk rfl; have d2 := cOb (o := 2) hSB.blk rfl; have d3 := cOb (o := 3) hSB.blk rfl; have dl := lHp hSB.blk; have HSB := Hi hSB; clear hSB) | (go_at_call 31; refine (start_s W _ HT.out _ _ _ _ _ _ HSH.out HSZ.out (by simp; omega) (by omega) HR.out HSB.out.st).mono ?_; rintro e w8 ⟨rfl, hS⟩; have HS8 := Hi hS; clear hS))
     exact HE.out _ _ _ _ _ _ _ _ _ _ _ _ _ _ _ _ _ _ _ _ _ _ (by have := HS8.out; rw [show partW (o != 2) wAgain (wS (.mk o nm d m ks)) = wAgain :: wS (.mk o nm d m ks) by unfold partW; rw [if_pos (by simpa using HOP.out)]]; simpa using this)
/- the three rounds -/
theorem nloop2 (Q : Exit → Act → World → Prop) (W w : World) (pb : Nat) (L N : List Bytes) (oB : Nat) (nB : Bytes) (dB mB : Nat) (KB : Option Addr) (ksB : List Tree) (qB : Nat) (oD : Nat) (nD : Bytes) (dD mD : Nat) (KD : Option Addr) (ksD : List Tree) (qD : Nat) (oG : Nat) (nG : Bytes) (dG mG : Nat) (KG : Option Addr) (ksG : List Tree) (qG : Nat) (A : Array Value)
 (hx0 : ∀ w, (Instr.index 59 (.agg A) (.int .i64 0)).run Tryz.prog w = .ok (.agg #[.int .i64 oB, vs nB, .int .i64 mB, .slice KB (ups ksB).length qB]) w) (hx1 : ∀ w, (Instr.index 59 (.agg A) (.int .i64 1)).run Tryz.prog w = .ok (.agg #[.int .i64 oD, vs nD, .int .i64 mD, .slice KD (ups ksD).length qD]) w) (hx2 : ∀ w, (Instr.index 59 (.agg A) (.int .i64 2)).run Tryz.prog w = .ok (.agg #[.int .i64 oG, vs nG, .int .i64 mG, .slice KG (ups ksG).length qG]) w) (ht : Tabs W)
 (hrB : RdX false W [.int .i64 oB, vs nB, .int .i64 mB, .slice KB (ups ksB).length qB] (up (.mk oB nB dB mB ksB))) (hsB : shapeS (.mk oB nB dB mB ksB) = true) (hzB : (Tree.mk oB nB dB mB ksB).size ≤ 300) (hrD : RdX false W [.int .i64 oD, vs nD, .int .i64 mD, .slice KD (ups ksD).length qD] (up (.mk oD nD dD mD ksD))) (hsD : shapeS (.mk oD nD dD mD ksD) = true) (hzD : (Tree.mk oD nD dD mD ksD).size ≤ 300) (hrG : RdX false W [.int .i64 oG, vs nG, .int .i64 mG, .slice KG (ups ksG).length qG] (up (.mk oG nG dG mG ksG))) (hsG : shapeS (.mk oG nG dG mG ksG) = true) (hzG : (Tree.mk oG nG dG mG ksG).size ≤ 300) (hL : L.length ≤ 5000) (hN : N.length ≤ 2000) (hS : St W w W.heap.size 52 L N)
 (u0 u2 u3 u5 u6 u7 u8 u9 u10 u11 u12 u13 u14 u15 u16 u17 u18 u19 u20 u21 u22 u23 u24 u25 u26 u27 u28 u29 u30 u31 u32 u33 u34 u35 u36 u37 u38 u39 u40 u41 u42 u43 u44 u45 u46 u47 u48 u49 u50 u51 u52 u53 u54 u55 u56 u57 u58 u59 u60 u61 u62 u63 u64 u65 u66 u67 u68 u69 u70 u71 u72 u73 u74 u75 u76 u77 u78 u79 u80 u81 u82 u83 u84 u85 u86 u89 u90 u91 u92 u93 u94 u95 u96 u97 u98 u99 u100 u101 u102 u103 u104 u105 u106 u107 u108 u109 u110 u111 u112 u113 u114 u115 u116 u117 u118 u119 u120 u121 u122 : Value)
 (hend : ∀ (v7 v8 v9 v89 v90 v91 v92 v93 v94 v95 v96 v97 v98 v99 v100 v101 v102 v103 v104 v105 v106 : Value) (w' : World), St W w' W.heap.size 52 (L ++ (partW (oB != 1) wFrom (wS (.mk oB nB dB mB ksB)) ++ partW (oD != 2) wUntil (wS (.mk oD nD dD mD ksD)) ++ partW (oG != 2) wAgain (wS (.mk oG nG dG mG ksG)))) (N ++ (namesS (.mk oB nB dB mB ksB) ++ namesS (.mk oD nD dD mD ksD) ++ namesS (.mk oG nG dG mG ksG))) → Q (.exit 2) ⟨#[u0, .pointer (some ⟨pb, 0, none⟩), u2, u3, .pointer (some ⟨W.heap.size, 0, none⟩), u5, u6, v7, v8, v9, u10, u11, u12, u13, u14, u15, u16, u17, u18, u19, u20, u21, u22, u23, u24, u25, u26, u27, u28, u29, u30, u31, u32, u33, u34, u35, u36, u37, u38, u39, u40, u41, u42, u43, u44, u45, u46, u47, u48, u49, u50, u51, u52, u53, u54, u55, u56, u57, u58, u59, u60, u61, u62, u63, u64, u65, u66, u67, u68, u69, u70, u71, u72, u73, u74, u75, u76, u77, u78, u79, u80, u81, u82, u83, u84, u85, u86, .agg A, .int .i64 3, v89, v90, v91, v92, v93, v94, v95, v96, v97, v98, v99, v100, v101, v102, v103, v104, v105, v106, u107, u108, u109, u110, u111, u112, u113, u114, u115, u116, u117, u118, u119, u120, u121, u122], []⟩ w') :
 Code.wp Tryz.prog (.loop (nbody 1)) Q ⟨#[u0, .pointer (some ⟨pb, 0, none⟩), u2, u3, .pointer (some ⟨W.heap.size, 0, none⟩), u5, u6, u7, u8, u9, u10, u11, u12, u13, u14, u15, u16, u17, u18, u19, u20, u21, u22, u23, u24, u25, u26, u27, u28, u29, u30, u31, u32, u33, u34, u35, u36, u37, u38, u39, u40, u41, u42, u43, u44, u45, u46, u47, u48, u49, u50, u51, u52, u53, u54, u55, u56, u57, u58, u59, u60, u61, u62, u63, u64, u65, u66, u67, u68, u69, u70, u71, u72, u73, u74, u75, u76, u77, u78, u79, u80, u81, u82, u83, u84, u85, u86, .agg A, .int .i64 0, u89, u90, u91, u92, u93, u94, u95, u96, u97, u98, u99, u100, u101, u102, u103, u104, u105, u106, u107, u108, u109, u110, u111, u112, u113, u114, u115, u116, u117, u118, u119, u120, u121, u122], []⟩ w := by
 have pB : (partW (oB != 1) wFrom (wS (.mk oB nB dB mB ksB))).length ≤ 2000 := by
  have h1 := part_le (oB != 1) wFrom (wS (.mk oB nB dB mB ksB))
  have h2 := wS_le (.mk oB nB dB mB ksB)
  omega
 have qB' : (namesS (.mk oB nB dB mB ksB)).length ≤ 300 := by
  have h2 := namesS_le (.mk oB nB dB mB ksB)
  omega
 have pD : (partW (oD != 2) wUntil (wS (.mk oD nD dD mD ksD))).length ≤ 2000 := by
  have h1 := part_le (oD != 2) wUntil (wS (.mk oD nD dD mD ksD))
  have h2 := wS_le (.mk oD nD dD mD ksD)
  omega
 have qD' : (namesS (.mk oD nD dD mD ksD)).length ≤ 300 := by
  have h2 := namesS_le (.mk oD nD dD mD ksD)
  omega
 have pG : (partW (oG != 2) wAgain (wS (.mk oG nG dG mG ksG))).length ≤ 2000 := by
  have h1 := part_le (oG != 2) wAgain (wS (.mk oG nG dG mG ksG))
  have h2 := wS_le (.mk oG nG dG mG ksG)
  omega
 have qG' : (namesS (.mk oG nG dG mG ksG)).length ≤ 300 := by
  have h2 := namesS_le (.mk oG nG dG mG ksG)
  omega
 have HX0 := Hi hx0
 have HX1 := Hi hx1
 have HX2 := Hi hx2
 refine wp_loop (fun a w' => ∃ (k : Nat) (v7 v8 v9 v89 v90 v91 v92 v93 v94 v95 v96 v97 v98 v99 v100 v101 v102 v103 v104 v105 v106 : Value), k ≤ 3 ∧ St W w' W.heap.size 52 (L ++ ([partW (oB != 1) wFrom (wS (.mk oB nB dB mB ksB)), partW (oD != 2) wUntil (wS (.mk oD nD dD mD ksD)), partW (oG != 2) wAgain (wS (.mk oG nG dG mG ksG))].take k).flatten) (N ++ ([namesS (.mk oB nB dB mB ksB), namesS (.mk oD nD dD mD ksD), namesS (.mk oG nG dG mG ksG)].take k).flatten) ∧ a = ⟨#[u0, .pointer (some ⟨pb, 0, none⟩), u2, u3, .pointer (some ⟨W.heap.size, 0, none⟩), u5, u6, v7, v8, v9, u10, u11, u12, u13, u14, u15, u16, u17, u18, u19, u20, u21, u22, u23, u24, u25, u26, u27, u28, u29, u30, u31, u32, u33, u34, u35, u36, u37, u38, u39, u40, u41, u42, u43, u44, u45, u46, u47, u48, u49, u50, u51, u52, u53, u54, u55, u56, u57, u58, u59, u60, u61, u62, u63, u64, u65, u66, u67, u68, u69, u70, u71, u72, u73, u74, u75, u76, u77, u78, u79, u80, u81, u82, u83, u84, u85, u86, .agg A, .int .i64 k, v89, v90, v91, v92, v93, v94, v95, v96, v97, v98, v99, v100, v101, v102, v103, v104, v105, v106, u107, u108, u109, u110, u111, u112, u113, u114, u115, u116, u117, u118, u119, u120, u121, u122], []⟩) (fun a _ => 3 - (intOf (a.tmps.getD 88 undef)).toNat) ?_ ?_
 · exact ⟨0, u7, u8, u9, u89, u90, u91, u92, u93, u94, u95, u96, u97, u98, u99, u100, u101, u102, u103, u104, u105, u106, by omega, by simpa using hS, rfl⟩
 · rintro a w' ⟨k, v7, v8, v9, v89, v90, v91, v92, v93, v94, v95, v96, v97, v98, v99, v100, v101, v102, v103, v104, v105, v106, hk, hS', rfl⟩
   clear hS
   have hk4 : k = 0 ∨ k = 1 ∨ k = 2 ∨ k = 3 := by omega
   rcases hk4 with rfl | rfl | rfl | rfl
   · refine nround _ W w' pb _ _ 0 1 wFrom oB nB dB mB KB ksB qB A (Or.inl <| ⟨rfl, rfl, rfl⟩) HX0.out ht hrB hsB (by omega) ?_ ?_ hS' u0 u2 u3 u5 u6 v7 v8 v9 u10 u11 u12 u13 u14 u15 u16 u17 u18 u19 u20 u21 u22 u23 u24 u25 u26 u27 u28 u29 u30 u31 u32 u33 u34 u35 u36 u37 u38 u39 u40 u41 u42 u43 u44 u45 u46 u47 u48 u49 u50 u51 u52 u53 u54 u55 u56 u57 u58 u59 u60 u61 u62 u63 u64 u65 u66 u67 u68 u69 u70 u71 u72 u73 u74 u75 u76 u77 u78 u79 u80 u81 u82 u83 u84 u85 u86 v89 v90 v91 v92 v93 v94 v95 v96 v97 v98 v99 v100 v101 v102 v103 v104 v105 v106 u107 u108 u109 u110 u111 u112 u113 u114 u115 u116 u117 u118 u119 u120 u121 u122 ?_
     · simp only [List.take_succ_cons, List.take_zero, List.flatten_cons, List.flatten_nil, List.length_append, List.length_nil]; omega
     · simp only [List.take_succ_cons, List.take_zero, List.flatten_cons, List.flatten_nil, List.length_append, List.length_nil]; omega
     · intro x7 x8 x9 x89 x90 x91 x92 x93 x94 x95 x96 x97 x98 x99 x100 x101 x102 x103 x104 x105 x106 wy hy
       refine ⟨⟨1, x7, x8, x9, x89, x90, x91, x92, x93, x94, x95, x96, x97, x98, x99, x100, x101, x102, x103, x104, x105, x106, by omega, by simpa using hy, rfl⟩, by simp [intOf]⟩
   · refine nround _ W w' pb _ _ 1 2 wUntil oD nD dD mD KD ksD qD A (Or.inr ∘ Or.inl <| ⟨rfl, rfl, rfl⟩) HX1.out ht hrD hsD (by omega) ?_ ?_ hS' u0 u2 u3 u5 u6 v7 v8 v9 u10 u11 u12 u13 u14 u15 u16 u17 u18 u19 u20 u21 u22 u23 u24 u25 u26 u27 u28 u29 u30 u31 u32 u33 u34 u35 u36 u37 u38 u39 u40 u41 u42 u43 u44 u45 u46 u47 u48 u49 u50 u51 u52 u53 u54 u55 u56 u57 u58 u59 u60 u61 u62 u63 u64 u65 u66 u67 u68 u69 u70 u71 u72 u73 u74 u75 u76 u77 u78 u79 u80 u81 u82 u83 u84 u85 u86 v89 v90 v91 v92 v93 v94 v95 v96 v97 v98 v99 v100 v101 v102 v103 v104 v105 v106 u107 u108 u109 u110 u111 u112 u113 u114 u115 u116 u117 u118 u119 u120 u121 u122 ?_
     · simp only [List.take_succ_cons, List.take_zero, List.flatten_cons, List.flatten_nil, List.length_append, List.length_nil]; omega
     · simp only [List.take_succ_cons, List.take_zero, List.flatten_cons, List.flatten_nil, List.length_append, List.length_nil]; omega
     · intro x7 x8 x9 x89 x90 x91 x92 x93 x94 x95 x96 x97 x98 x99 x100 x101 x102 x103 x104 x105 x106 wy hy
       refine ⟨⟨2, x7, x8, x9, x89, x90, x91, x92, x93, x94, x95, x96, x97, x98, x99, x100, x101, x102, x103, x104, x105, x106, by omega, by simpa using hy, rfl⟩, by simp [intOf]⟩
   · refine nround _ W w' pb _ _ 2 2 wAgain oG nG dG mG KG ksG qG A (Or.inr ∘ Or.inr <| ⟨rfl, rfl, rfl⟩) HX2.out ht hrG hsG (by omega) ?_ ?_ hS' u0 u2 u3 u5 u6 v7 v8 v9 u10 u11 u12 u13 u14 u15 u16 u17 u18 u19 u20 u21 u22 u23 u24 u25 u26 u27 u28 u29 u30 u31 u32 u33 u34 u35 u36 u37 u38 u39 u40 u41 u42 u43 u44 u45 u46 u47 u48 u49 u50 u51 u52 u53 u54 u55 u56 u57 u58 u59 u60 u61 u62 u63 u64 u65 u66 u67 u68 u69 u70 u71 u72 u73 u74 u75 u76 u77 u78 u79 u80 u81 u82 u83 u84 u85 u86 v89 v90 v91 v92 v93 v94 v95 v96 v97 v98 v99 v100 v101 v102 v103 v104 v105 v106 u107 u108 u109 u110 u111 u112 u113 u114 u115 u116 u117 u118 u119 u120 u121 u122 ?_
     · simp only [List.take_succ_cons, List.take_zero, List.flatten_cons, List.flatten_nil, List.length_append, List.length_nil]; omega
     · simp only [List.take_succ_cons, List.take_zero, List.flatten_cons, List.flatten_nil, List.length_append, List.length_nil]; omega
     · intro x7 x8 x9 x89 x90 x91 x92 x93 x94 x95 x96 x97 x98 x99 x100 x101 x102 x103 x104 x105 x106 wy hy
       refine ⟨⟨3, x7, x8, x9, x89, x90, x91, x92, x93, x94, x95, x96, x97, x98, x99, x100, x101, x102, x103, x104, x105, x106, by omega, by simpa using hy, rfl⟩, by simp [intOf]⟩
   · have HS := Hi hS'
     have HE := Hi hend
     clear hS' hend hx0 hx1 hx2 HX0 HX1 HX2
     rw [show ((3 : Nat) : Int) = (3 : Int) from rfl] at *
     conv => arg 2; whnf
     go_wp2_with fail
     exact HE.out _ _ _ _ _ _ _ _ _ _ _ _ _ _ _ _ _ _ _ _ _ _ (by have := HS.out; simpa using this)
end Go.Proofs.YtbicmjmcdnkjhaaGreatDoor

set_option maxRecDepth 100000
set_option maxHeartbeats 4000000
namespace Go.Proofs.YtbicmjmcdnkjhaaGreatDoor
open Go.RowKit
attribute [local go_sem ↓] Go.wp_at_zero Go.wp_at_succ
theorem exc_word (k : Nat) : ∃ s : Bytes, (if k = 0 then wNot2 else wComma) = s ∧ ∀ w, (Instr.index 58 (.agg #[vs [110, 111, 116, 119, 105, 116, 104, 115, 116, 97, 110, 100, 105, 110, 103], vs [44]]) (.int .i64 (min (k : Int) 1))).run Tryz.prog w = .ok (vs s) w := by
 cases k with
 | zero => exact ⟨_, rfl, fun _ => by kernel_rfl⟩
 | succ n =>
   rw [show min ((n + 1 : Nat) : Int) 1 = 1 by omega]
   exact ⟨_, rfl, fun _ => by kernel_rfl⟩
theorem excW_snoc (l : List Bytes) (s : Bytes) : excW (l ++ [s]) = excW l ++ [if l.length = 0 then wNot2 else wComma, s] := by
 unfold excW
 cases l with
 | nil => simp [sepW]
 | cons a r =>
   have h := sepW_snoc wComma [s] ((a :: r).map fun s => [s])
   rw [if_neg (by simp)] at h
   rw [if_neg (by simp), if_neg (by simp), List.map_append, List.map_singleton, h]
   simp
theorem excW_len : ∀ l : List Bytes, (excW l).length ≤ 2 * l.length := by
 intro l
 have h : ∀ n, (excW (l.take n)).length = 2 * (l.take n).length := by
  intro n
  induction n with
  | zero => rfl
  | succ n ih =>
    rw [List.take_add_one]
    cases hl : l[n]? with
    | none => simpa using ih
    | some s =>
      simp only [Option.toList]
      rw [excW_snoc, List.length_append, ih, List.length_append]
      simp
      omega
 have := h l.length
 rw [List.take_length] at this
 omega
theorem nloop1 (Q : Exit → Act → World → Prop) (W w : World) (pb : Nat) (L N : List Bytes) (A : Option Addr) (exc : List Bytes) (cap : Nat) (hr : RdS W A exc) (hxl : exc.length ≤ 20) (hL : L.length ≤ 3000) (hN : N.length ≤ 1000) (hS : St W w W.heap.size 52 L N)
 (u0 u2 u3 u5 u6 u7 u8 u9 u10 u11 u12 u13 u14 u15 u16 u17 u18 u19 u20 u21 u22 u23 u24 u25 u26 u27 u28 u29 u30 u31 u32 u33 u34 u35 u36 u37 u38 u39 u40 u41 u42 u43 u44 u45 u46 u47 u48 u49 u50 u51 u52 u53 u54 u55 u56 u57 u58 u59 u60 u61 u62 u66 u67 u68 u69 u70 u71 u72 u73 u74 u75 u76 u77 u78 u79 u80 u81 u82 u83 u84 u85 u86 u87 u88 u89 u90 u91 u92 u93 u94 u95 u96 u97 u98 u99 u100 u101 u102 u103 u104 u105 u106 u107 u108 u109 u110 u111 u112 u113 u114 u115 u116 u117 u118 u119 u120 u121 u122 : Value)
 (hend : ∀ (v5 v6 v66 v67 v68 v69 v70 v71 v72 v73 v74 v75 v76 v77 v78 v79 v80 : Value) (w' : World), St W w' W.heap.size 52 (L ++ excW exc) (N ++ exc) → Q (.exit 0) ⟨#[u0, .pointer (some ⟨pb, 0, none⟩), u2, u3, .pointer (some ⟨W.heap.size, 0, none⟩), v5, v6, u7, u8, u9, u10, u11, u12, u13, u14, u15, u16, u17, u18, u19, u20, u21, u22, u23, u24, u25, u26, u27, u28, u29, u30, u31, u32, u33, u34, u35, u36, u37, u38, u39, u40, u41, u42, u43, u44, u45, u46, u47, u48, u49, u50, u51, u52, u53, u54, u55, u56, u57, u58, u59, u60, u61, u62, .slice A exc.length cap, .int .i64 exc.length, .int .i64 exc.length, v66, v67, v68, v69, v70, v71, v72, v73, v74, v75, v76, v77, v78, v79, v80, u81, u82, u83, u84, u85, u86, u87, u88, u89, u90, u91, u92, u93, u94, u95, u96, u97, u98, u99, u100, u101, u102, u103, u104, u105, u106, u107, u108, u109, u110, u111, u112, u113, u114, u115, u116, u117, u118, u119, u120, u121, u122], []⟩ w') :
 Code.wp Tryz.prog (.loop (nbody 0)) Q ⟨#[u0, .pointer (some ⟨pb, 0, none⟩), u2, u3, .pointer (some ⟨W.heap.size, 0, none⟩), u5, u6, u7, u8, u9, u10, u11, u12, u13, u14, u15, u16, u17, u18, u19, u20, u21, u22, u23, u24, u25, u26, u27, u28, u29, u30, u31, u32, u33, u34, u35, u36, u37, u38, u39, u40, u41, u42, u43, u44, u45, u46, u47, u48, u49, u50, u51, u52, u53, u54, u55, u56, u57, u58, u59, u60, u61, u62, .slice A exc.length cap, .int .i64 exc.length, .int .i64 0, u66, u67, u68, u69, u70, u71, u72, u73, u74, u75, u76, u77, u78, u79, u80, u81, u82, u83, u84, u85, u86, u87, u88, u89, u90, u91, u92, u93, u94, u95, u96, u97, u98, u99, u100, u101, u102, u103, u104, u105, u106, u107, u108, u109, u110, u111, u112, u113, u114, u115, u116, u117, u118, u119, u120, u121, u122], []⟩ w := by
 refine wp_loop (fun a w' => ∃ (k : Nat) (v5 v6 v66 v67 v68 v69 v70 v71 v72 v73 v74 v75 v76 v77 v78 v79 v80 : Value), k ≤ exc.length ∧ St W w' W.heap.size 52 (L ++ excW (exc.take k)) (N ++ exc.take k) ∧ a = ⟨#[u0, .pointer (some ⟨pb, 0, none⟩), u2, u3, .pointer (some ⟨W.heap.size, 0, none⟩), v5, v6, u7, u8, u9, u10, u11, u12, u13, u14, u15, u16, u17, u18, u19, u20, u21, u22, u23, u24, u25, u26, u27, u28, u29, u30, u31, u32, u33, u34, u35, u36, u37, u38, u39, u40, u41, u42, u43, u44, u45, u46, u47, u48, u49, u50, u51, u52, u53, u54, u55, u56, u57, u58, u59, u60, u61, u62, .slice A exc.length cap, .int .i64 exc.length, .int .i64 k, v66, v67, v68, v69, v70, v71, v72, v73, v74, v75, v76, v77, v78, v79, v80, u81, u82, u83, u84, u85, u86, u87, u88, u89, u90, u91, u92, u93, u94, u95, u96, u97, u98, u99, u100, u101, u102, u103, u104, u105, u106, u107, u108, u109, u110, u111, u112, u113, u114, u115, u116, u117, u118, u119, u120, u121, u122], []⟩) (fun a _ => exc.length - (intOf (a.tmps.getD 65 undef)).toNat) ?_ ?_
 · exact ⟨0, u5, u6, u66, u67, u68, u69, u70, u71, u72, u73, u74, u75, u76, u77, u78, u79, u80, by omega, by simpa [excW] using hS, rfl⟩
 · rintro a wr ⟨k, v5, v6, v66, v67, v68, v69, v70, v71, v72, v73, v74, v75, v76, v77, v78, v79, v80, hk, hS', rfl⟩
   have HR := Hi hr
   have HE := Hi hend
   have HS := Hi hS'
   clear hS hS' hr hend
   by_cases hke : k = exc.length
   · subst hke
     rw [List.take_length] at HS
     conv => arg 2; whnf
     go_wp2_with fail
     exact HE.out _ _ _ _ _ _ _ _ _ _ _ _ _ _ _ _ _ _ HS.out
   · have hklt : k < exc.length := by omega
     obtain ⟨s, hsk⟩ : ∃ s, exc[k]? = some s := ⟨_, List.getElem?_eq_getElem hklt⟩
     obtain ⟨eb, eo, rfl, hebl, hec⟩ := HR.out.item hsk
     have hti : (k : Int) < (exc.length : Int) := by omega
     have hk0 : (0 : Int) ≤ (k : Int) := by omega
     have hxc : wr.cell? ⟨eb, eo + k, none⟩ = some (vs s) := (HS.out.below.cell (p := ⟨eb, eo + k, none⟩) hebl).trans hec
     have HSK := Hi hsk
     obtain ⟨ww, hww, hix⟩ := exc_word k
     have hxl2 := excW_len (exc.take k)
     have htl : (exc.take k).length = k := by rw [List.length_take]; omega
     obtain ⟨LK, hLK⟩ : ∃ LK, L ++ excW (exc.take k) = LK := ⟨_, rfl⟩
     obtain ⟨NK, hNK⟩ : ∃ NK, N ++ exc.take k = NK := ⟨_, rfl⟩
     have hLKl : LK.length ≤ 4000 := by rw [← hLK, List.length_append]; omega
     have hNKl : NK.length ≤ 2000 := by rw [← hNK, List.length_append]; omega
     rw [hLK, hNK] at HS
     have HST : Hid (L ++ excW (exc.take (k + 1)) = LK ++ [ww] ++ [s] ∧ N ++ exc.take (k + 1) = NK ++ [s]) := Hi (by
      rw [List.take_add_one, HSK.out]
      simp only [Option.toList]
      rw [excW_snoc, htl, hww, ← hLK, ← hNK]
      simp)
     have HMS : Hid (exc.length - ((k : Int) + 1).toNat < exc.length - ((k : Nat) : Int).toNat) := Hi (by omega)
     clear hec hsk hww hxl2 htl hLK hNK hke
     conv => arg 2; whnf
     go_wp2_with (first | (go_at_call 27; refine (word_s W _ _ _ _ _ _ _ (by simp) HS.out (by omega)).mono ?_; rintro e w9 ⟨rfl, hS⟩; have HS9 := Hi hS; clear HS hS; have HS := HS9; clear HS9) | (go_at_call 28; refine (name_s W _ _ _ _ _ _ HS.out (by simp; omega) (by omega)).mono ?_; rintro e w9 ⟨rfl, hS⟩; have HS9 := Hi hS; clear HS hS; have HS := HS9; clear HS9))
     refine ⟨⟨k + 1, _, _, _, _, _, _, _, _, _, _, _, _, _, _, _, _, _, by omega, ?_, rfl⟩, ?_⟩
     · rw [HST.out.1, HST.out.2]
       exact HS.out
     · exact HMS.out
end Go.Proofs.YtbicmjmcdnkjhaaGreatDoor

