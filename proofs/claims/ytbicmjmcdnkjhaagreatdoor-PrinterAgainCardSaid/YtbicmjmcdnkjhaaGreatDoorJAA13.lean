/- The classes of bytes. -/
import Derived.Test.YtbicmjmcdnkjhaaGreatDoorJAA1
import Derived.Deep.MidRow
import Derived.Deep.WholeRow
import Derived.RangeFuncNested
import Derived.Shelf.Abstract
import Derived.OwnWalkIn
import Derived.TacticsInMore
import Derived.LoopNIn
import Derived.LoopIn
import Derived.Deep.CutBlock
set_option linter.unusedVariables false
set_option linter.unusedSimpArgs false
namespace Go
noncomputable def World.tbk (W : World) (b : Nat) : Option Obj := W.heap[b]?
end Go
set_option maxRecDepth 20000
set_option maxHeartbeats 4000000
namespace Go.Proofs.YtbicmjmcdnkjhaaGreatDoor
section
open Go.RowKit
def P6 (k : Nat) : Nat := if 97 <= k /\ k <= 122 then 3 else if 65 <= k /\ k <= 90 then 3 else if 48 <= k /\ k <= 57 then 4 else if k = 32 \/ k = 9 \/ k = 10 then 1 else if k = 59 \/ k = 44 \/ k = 46 \/ k = 58 \/ k = 40 \/ k = 41 \/ k = 91 \/ k = 93 \/ k = 123 \/ k = 125 \/ k = 61 then 6 else if k = 60 \/ k = 62 then 7 else 0
def Zu (k : Nat) : Nat := if k = 35 then 2 else if k = 95 then 5 else if k = 33 then 8 else P6 k
theorem qg4 {p : UInt8 -> Prop} (h : ∀ k, k < 256 -> p (UInt8.ofNat k)) (c : UInt8) : p c := by
 have := h c.toNat (UInt8.toNat_lt c); rwa [UInt8.ofNat_toNat] at this
def F8 (k : Nat) : Bool :=
 let c := UInt8.ofNat k
 ((Zu k == 3) == Ke c) && ((Zu k == 4) == digitB c) && ((Zu k == 1) == Z2 c) && ((Zu k == 6) == qch c) && ((Zu k == 7) == qcz c) && ((Zu k == 2) == (c == 35)) && ((Zu k == 5) == (c == 95)) && ((Zu k == 8) == (c == 33)) && decide (Zu k <= 8) && (c.toNat == k) &&
 ((decide (0 <= Lib.indexByte [32, 9, 10] ((k : Int).toNat.toUInt8))) == (k == 32 || k == 9 || k == 10)) && ((decide (0 <= Lib.indexByte [59, 44, 46, 58, 40, 41, 91, 93, 123, 125, 61] ((k : Int).toNat.toUInt8))) == (k == 59 || k == 44 || k == 46 || k == 58 || k == 40 || k == 41 || k == 91 || k == 93 || k == 123 || k == 125 || k == 61))
theorem qag : ∀ k, k < 256 -> F8 k = true := by
 have : (List.range 256).all F8 = true := by decide +kernel
 intro k hk; rw [List.all_eq_true] at this; exact this k (List.mem_range.2 hk)
structure Kr (c : UInt8) : Prop where
 letter : (Zu c.toNat == 3) = Ke c
 digit : (Zu c.toNat == 4) = digitB c
 blank : (Zu c.toNat == 1) = Z2 c
 sym : (Zu c.toNat == 6) = qch c
 pre : (Zu c.toNat == 7) = qcz c
 hash : (Zu c.toNat == 2) = (c == 35)
 under : (Zu c.toNat == 5) = (c == 95)
 bang : (Zu c.toNat == 8) = (c == 33)
 le : Zu c.toNat <= 8
theorem V4 (c : UInt8) : Kr c := by
 refine qg4 (p := Kr) (fun k hk => ?_) c; have h := qag k hk; simp only [F8, Bool.and_eq_true, beq_iff_eq, decide_eq_true_eq] at h; obtain ⟨⟨⟨⟨⟨⟨⟨⟨⟨⟨⟨h1, h2⟩, h3⟩, h4⟩, h5⟩, h6⟩, h7⟩, h8⟩, h9⟩, aV⟩, eK⟩, eJ⟩ := h; exact ⟨by rw [aV]; exact h1, by rw [aV]; exact h2, by rw [aV]; exact h3, by rw [aV]; exact h4, by rw [aV]; exact h5, by rw [aV]; exact h6, by rw [aV]; exact h7, by rw [aV]; exact h8, by rw [aV]; exact h9⟩
theorem qgb (k : Nat) (hk : k < 256) : decide (0 <= Lib.indexByte [32, 9, 10] ((k : Int).toNat.toUInt8)) = (k == 32 || k == 9 || k == 10) := by
 have h := qag k hk; simp only [F8, Bool.and_eq_true, beq_iff_eq, decide_eq_true_eq] at h; exact h.1.2
theorem qke (k : Nat) (hk : k < 256) : decide (0 <= Lib.indexByte [59, 44, 46, 58, 40, 41, 91, 93, 123, 125, 61] ((k : Int).toNat.toUInt8)) = (k == 59 || k == 44 || k == 46 || k == 58 || k == 40 || k == 41 || k == 91 || k == 93 || k == 123 || k == 125 || k == 61) := by
 have h := qag k hk; simp only [F8, Bool.and_eq_true, beq_iff_eq, decide_eq_true_eq] at h; exact h.2
def Lc (a : Addr) : Sem Value := loadVar 157 a
def Hn (a : Addr) (v : Value) : Sem Unit := storeVar 157 a v
@[go_sem ↓ high] theorem qdg (a : Addr) : loadVar 157 a = Lc a := rfl
@[go_sem ↓ high] theorem qa1 (a : Addr) (v : Value) : storeVar 157 a v = Hn a v := rfl
noncomputable def B9 (W : World) (b : Nat) (x : Option Obj) : Result Value :=
 match x with
 | some (.cells C _ _) => if C.size = 256 then .ok (.agg C) W else (Lc ⟨b, 0, none⟩).run Tryz.prog W
 | _ => (Lc ⟨b, 0, none⟩).run Tryz.prog W
@[go_sem] theorem qja (W : World) (b : Nat) : (Lc ⟨b, 0, none⟩).run Tryz.prog W = B9 W b (W.tbk b) := by
 unfold B9 World.tbk
 split
 · rename_i C t' fr h
   split
   · rename_i hn; have := run_loadVar_mid (P := Tryz.prog) W b 0 157 C.toList _ (fun j v hv => by rw [Nat.zero_add]; simp [World.cell?, h]; simpa using hv) Tryz.underlying157 rfl (by rw [Array.length_toList, hn]; kernel_rfl); rwa [Array.toArray_toList] at this
   · rfl
 · rfl
theorem Ns (W : World) (b : Nat) (C : Array Value) (t : TypeId) (fr : Nat × Nat) (h : C.size = 256) : B9 W b (some (.cells C t fr)) = .ok (.agg C) W := if_pos h
open Classical in
noncomputable def Ln (W : World) (b : Nat) (c : Array Value) (x : Option Obj) : Result Unit :=
 match x with
 | some (.cells C _ (0, 0)) => if C.size = 256 /\ c.size = 256 /\ c.all (·.oneCell') = true then .ok () (W.setRow b c) else (Hn ⟨b, 0, none⟩ (.agg c)).run Tryz.prog W
 | _ => (Hn ⟨b, 0, none⟩ (.agg c)).run Tryz.prog W
@[go_sem] theorem qhx (W : World) (b : Nat) (c : Array Value) : (Hn ⟨b, 0, none⟩ (.agg c)).run Tryz.prog W = Ln W b c (W.tbk b) := by
 unfold Ln World.tbk
 split
 · rename_i C t' h
   split
   · rename_i hn; exact run_storeVar_row W b t' 157 C c h (by rw [hn.2.1]; kernel_rfl) (by omega) hn.2.2
   · rfl
 · rfl
theorem Iv (W : World) (b : Nat) (c C : Array Value) (t : TypeId) (h1 : C.size = 256) (h2 : c.size = 256) (h3 : c.all (·.oneCell') = true) : Ln W b c (some (.cells C t (0, 0))) = .ok () (W.setRow b c) := if_pos ⟨h1, h2, h3⟩
theorem qa0 {C : Array Value} {f : Nat -> Nat} (hs : C.size = 256) (h : ∀ k, k < 256 -> C[k]? = some (.int .u8 (f k))) : C.all (·.oneCell') = true := by
 rw [Array.all_eq_true]; intro i hi; have := h i (by omega); rw [Array.getElem?_eq_getElem hi] at this; injection this with this; rw [this]; rfl
theorem zc : Tryz.zeroCells157 = Array.replicate 256 (.int .u8 0) := by kernel_rfl
def Tab (f : Nat -> Nat) (w : World) (b : Nat) : Prop := ∃ C : Array Value, w.heap[b]? = some (.cells C 157 (0, 0)) /\ C.size = 256 /\ ∀ k, k < 256 -> C[k]? = some (.int .u8 (f k))
theorem Tab.cell {f : Nat -> Nat} {w : World} {b k : Nat} (h : Tab f w b) (hk : k < 256) : w.cell? ⟨b, k, none⟩ = some (.int .u8 (f k)) /\ w.frozen? ⟨b, k, none⟩ = false := by
 obtain ⟨C, h1, -, h3⟩ := h; exact ⟨cOb h1 (h3 k hk), fOb h1⟩
theorem Tab.lt {f : Nat -> Nat} {w : World} {b : Nat} (h : Tab f w b) : b < w.heap.size := by obtain ⟨C, h1, -⟩ := h; exact lHp h1
theorem Tab.set {f g : Nat -> Nat} {w : World} {b k v : Nat} (h : Tab f w b) (hg : ∀ j, j < 256 -> g j = if j = k then v else f j) : Tab g (w.setCell ⟨b, k, none⟩ (.int .u8 v)) b := by
 obtain ⟨C, h1, h2, h3⟩ := h; refine ⟨C.setIfInBounds k (.int .u8 v), ?_, by simpa using h2, fun j hj => ?_⟩
 · rw [rSc h1]
 · rw [Array.getElem?_setIfInBounds, hg j hj]
   by_cases bY : j = k
   · subst bY; simp; omega
   · rw [if_neg (fun e => bY e.symm), if_neg bY]; exact h3 j hj
theorem Tab.keep {f : Nat -> Nat} {w w' : World} {b : Nat} (h : Tab f w b) (hb : w'.heap[b]? = w.heap[b]?) : Tab f w' b := by
 obtain ⟨C, h1, h2⟩ := h; exact ⟨C, hb.trans h1, h2⟩
theorem Tab.same {f g : Nat -> Nat} {w : World} {b : Nat} (h : Tab f w b) (hg : ∀ j, j < 256 -> g j = f j) : Tab g w b := by
 obtain ⟨C, h1, h2, h3⟩ := h; exact ⟨C, h1, h2, fun k hk => by rw [hg k hk]; exact h3 k hk⟩
def Il (k j : Nat) : Nat := if j < k then P6 j else 0
theorem Br {k v : Nat} (hv : P6 k = v) : ∀ j, j < 256 -> Il (k + 1) j = if j = k then v else Il k j := by
 intro j _; unfold Il
 by_cases h : j = k
 · subst h; rw [if_pos (by omega), if_pos rfl, hv]
 · rw [if_neg h]
   by_cases h2 : j < k
   · rw [if_pos (by omega), if_pos h2]
   · rw [if_neg (by omega), if_neg h2]
theorem qai {k : Nat} (hv : P6 k = 0) : ∀ j, j < 256 -> Il (k + 1) j = Il k j := by
 intro j hj; rw [Br hv j hj]
 by_cases h : j = k
 · subst h; simp [Il]
 · rw [if_neg h]
theorem qd0 (k : Nat) : (97 <= k /\ k <= 122 /\ P6 k = 3) \/ (65 <= k /\ k <= 90 /\ P6 k = 3) \/ (48 <= k /\ k <= 57 /\ P6 k = 4) \/ (¬ (97 <= k /\ k <= 122) /\ ¬ (65 <= k /\ k <= 90) /\ ¬ (48 <= k /\ k <= 57)) := by
 unfold P6
 split
 · exact .inl (by omega)
 · split
   · exact .inr (.inl (by omega))
   · split
     · exact .inr (.inr (.inl (by omega)))
     · exact .inr (.inr (.inr (by omega)))
structure N6 (w wr : World) (k : Nat) : Prop where
 tab : Tab (Il k) wr (w.heap.size + 1)
 res : wr.heap[w.heap.size]? = some (.cells Tryz.zeroCells157 157 (0, 0))
 below : Below w.heap.size w wr
theorem N6.set {w wr : World} {k v : Nat} (h : N6 w wr k) (hv : P6 k = v) : N6 w (wr.setCell ⟨w.heap.size + 1, k, none⟩ (.int .u8 v)) (k + 1) :=
 ⟨h.tab.set (Br hv), (Below.heap_setCell _ _ _ _ (by simp)).trans h.res, h.below.setCell (by simp) _⟩
theorem N6.none {w wr : World} {k : Nat} (h : N6 w wr k) (hv : P6 k = 0) : N6 w wr (k + 1) := ⟨h.tab.same (qai hv), h.res, h.below⟩
theorem N6.start (w : World) : N6 w ((w.alloc (.cells Tryz.zeroCells157 157)).alloc (.cells Tryz.zeroCells157 157)) 0 := by
 have h1 : ((w.alloc (.cells Tryz.zeroCells157 157)).alloc (.cells Tryz.zeroCells157 157)).heap[w.heap.size + 1]? = some (.cells Tryz.zeroCells157 157 (0, 0)) := by
  have := heap_alloc_new (w.alloc (.cells Tryz.zeroCells157 157)) (.cells Tryz.zeroCells157 157); rwa [show (w.alloc (.cells Tryz.zeroCells157 157)).heap.size = w.heap.size + 1 by simp] at this
 refine ⟨⟨_, h1, by rw [zc]; simp, fun k hk => by rw [zc]; simp [hk, Il]⟩, ?_, ((Below.refl _ _).alloc (lR _) _).alloc (by simp) _⟩; exact (Below.heap_alloc _ _ _ (by simp)).trans (heap_alloc_new w _)
theorem qg1 {W : World} {b : Nat} (h : Tab (Il 256) W b) : Tab Zu (((W.setCell ⟨b, 35, none⟩ (.int .u8 2)).setCell ⟨b, 95, none⟩ (.int .u8 5)).setCell ⟨b, 33, none⟩ (.int .u8 8)) b := by
 refine Tab.set (v := 8) (f := fun j => if j = 95 then 5 else if j = 35 then 2 else Il 256 j) (Tab.set (v := 5) (f := fun j => if j = 35 then 2 else Il 256 j) (Tab.set (v := 2) h (fun j _ => rfl)) (fun j _ => rfl)) (fun j hj => ?_); unfold Zu Il; rw [if_pos hj]
 by_cases h1 : j = 35
 · subst h1; rfl
 · by_cases h2 : j = 95
   · subst h2; rfl
   · by_cases h3 : j = 33
     · subst h3; rfl
     · simp [h1, h2, h3]
theorem Xt {b0 b : Nat} {w W : World} (h : Below b0 w W) (hb : b0 <= b) (C : Array Value) : Below b0 w (W.setRow b C) := by
 refine ⟨h.os, h.tape, h.output, by have := h.size; simpa [World.setRow] using this, fun k hk => ?_⟩; rw [<- h.block k hk]; have : ¬ b = k := by omega
 simp [World.setRow, Array.getElem?_modify, this]
theorem F9 (w : World) : Calls Tryz.prog 114 #[] w fun e w' => Below w.heap.size w w' /\ ∃ C : Array Value, e = .returned (.agg C) /\ C.size = 256 /\ ∀ k, k < 256 -> C[k]? = some (.int .u8 (Zu k)) := by
 go_enter Tryz.func114, Tryz.ntmps114
 go_wp2_with fail; go_loopw [4] (fun v wr => ∃ k : Nat, k <= 256 /\ v = .int .i64 k /\ N6 w wr k) (fun v _ => 256 - (intOf v).toNat)
 case atStart => exact ⟨0, by omega, rfl, N6.start w⟩
 case round =>
  obtain ⟨k, hk, rfl, hI⟩ := hrel; have HI := Hi hI; have cV := hI.tab.lt
  by_cases aT : k = 256
  · subst aT; obtain ⟨C, hC, hs, hv⟩ := hI.tab; have bD := hI.res; have f1 := fOb (o := 35) hC; have f2 := fOb (o := 95) hC; have f3 := fOb (o := 33) hC; have c1 := cOb hC (hv 35 (by omega)); have c2 := cOb hC (hv 95 (by omega)); have c3 := cOb hC (hv 33 (by omega)); have HC := Hi hC; have HS := Hi hs; have HV := Hi hv; have HR := Hi bD; clear hI hC hs hv bD; go_wp2_with fail; have hT : Tab Zu (((wr.setCell ⟨w.heap.size + 1, 35, none⟩ (.int .u8 2)).setCell ⟨w.heap.size + 1, 95, none⟩ (.int .u8 5)).setCell ⟨w.heap.size + 1, 33, none⟩ (.int .u8 8)) (w.heap.size + 1) := qg1 HI.out.tab
    have aL : (((wr.setCell ⟨w.heap.size + 1, 35, none⟩ (.int .u8 2)).setCell ⟨w.heap.size + 1, 95, none⟩ (.int .u8 5)).setCell ⟨w.heap.size + 1, 33, none⟩ (.int .u8 8)).tbk w.heap.size = some (.cells Tryz.zeroCells157 157 (0, 0)) :=
     (Below.heap_setCell _ _ _ _ (by simp)).trans ((Below.heap_setCell _ _ _ _ (by simp)).trans ((Below.heap_setCell _ _ _ _ (by simp)).trans HR.out))
    have aF : Below w.heap.size w (((wr.setCell ⟨w.heap.size + 1, 35, none⟩ (.int .u8 2)).setCell ⟨w.heap.size + 1, 95, none⟩ (.int .u8 5)).setCell ⟨w.heap.size + 1, 33, none⟩ (.int .u8 8)) :=
     ((HI.out.below.setCell (by simp) _).setCell (by simp) _).setCell (by simp) _
    revert hT aL aF
    generalize (((wr.setCell ⟨w.heap.size + 1, 35, none⟩ (.int .u8 2)).setCell ⟨w.heap.size + 1, 95, none⟩ (.int .u8 5)).setCell ⟨w.heap.size + 1, 33, none⟩ (.int .u8 8)) = W3; intro hT aL aF; obtain ⟨D, hD, bK, cY⟩ := hT; rw [show W3.tbk (w.heap.size + 1) = some (.cells D 157 (0, 0)) from hD, Ns _ _ _ _ _ bK]; go_wp2_with fail; rw [Iv _ _ _ _ _ (by rw [zc]; simp) bK (qa0 bK cY)]; go_wp2_with fail
    have cD : (W3.setRow w.heap.size D).tbk w.heap.size = some (.cells D 157 (0, 0)) := by
     unfold World.tbk at *; simp [World.setRow, Array.getElem?_modify, aL]
    refine bodyPost_ret (v := .agg D) (results_cell_row Tryz.results114 _ _ w.heap.size 157 D (0, 0) _ (by rfl) cD Tryz.underlying157 rfl (by rw [bK]; kernel_rfl)) rfl ⟨?_, D, rfl, bK, cY⟩; exact Xt aF (lR _) _
  · have aX : (k : Int) < 256 := by omega
    have eG : (0 : Int) <= k := by omega
    have hw : IntKind.u8.wrap (k : Int) = k := by simp [IntKind.wrap, IntKind.bits, IntKind.signed]; omega
    obtain ⟨c0, f0⟩ := hI.tab.cell (k := k) (by omega); rcases qd0 k with ⟨h1, h2, h3⟩ | ⟨h1, h2, h3⟩ | ⟨h1, h2, h3⟩ | ⟨h1, h2, h3⟩
    · have H3 := Hi h3; have y1 : (97 : Int) <= k := (by omega)
      have y2 : (k : Int) <= 122 := (by omega)
      clear h1 h2 h3 hI aT; go_wp2_with fail; exact ⟨⟨k + 1, by omega, by go_num, HI.out.set H3.out⟩, by simp [intOf]; omega⟩
    · have H3 := Hi h3; have y1 : ¬ (97 : Int) <= k := (by omega)
      have y2 : (65 : Int) <= k := (by omega)
      have y3 : (k : Int) <= 90 := (by omega)
      clear h1 h2 h3 hI aT; go_wp2_with fail; exact ⟨⟨k + 1, by omega, by go_num, HI.out.set H3.out⟩, by simp [intOf]; omega⟩
    · have H3 := Hi h3; have y1 : ¬ (97 : Int) <= k := (by omega)
      have y2 : ¬ (65 : Int) <= k := (by omega)
      have y3 : (48 : Int) <= k := (by omega)
      have y4 : (k : Int) <= 57 := (by omega)
      clear h1 h2 h3 hI aT; go_wp2_with fail; exact ⟨⟨k + 1, by omega, by go_num, HI.out.set H3.out⟩, by simp [intOf]; omega⟩
    · have cM := Hi (qgb k (by omega)); have dT := Hi (qke k (by omega))
      have HC : P6 k = if k = 32 \/ k = 9 \/ k = 10 then 1 else if k = 59 \/ k = 44 \/ k = 46 \/ k = 58 \/ k = 40 \/ k = 41 \/ k = 91 \/ k = 93 \/ k = 123 \/ k = 125 \/ k = 61 then 6 else if k = 60 \/ k = 62 then 7 else 0 := by
       unfold P6; rw [if_neg h1, if_neg h2, if_neg h3]
      have H3 := Hi HC; have HR : k < 48 \/ (58 <= k /\ k < 65) \/ (91 <= k /\ k < 97) \/ 123 <= k := (by omega)
      have y1 : (97 : Int) <= k \/ ¬ (97 : Int) <= k := (by omega)
      have y2 : (k : Int) <= 122 \/ ¬ (k : Int) <= 122 := (by omega)
      have y3 : (65 : Int) <= k \/ ¬ (65 : Int) <= k := (by omega)
      have y4 : (k : Int) <= 90 \/ ¬ (k : Int) <= 90 := (by omega)
      have y5 : (48 : Int) <= k \/ ¬ (48 : Int) <= k := (by omega)
      have y6 : (k : Int) <= 57 \/ ¬ (k : Int) <= 57 := (by omega)
      clear HC; rcases y1 with y1 | y1 <;> rcases y2 with y2 | y2 <;> rcases y3 with y3 | y3 <;> rcases y4 with y4 | y4 <;> rcases y5 with y5 | y5 <;> rcases y6 with y6 | y6 <;> try (exfalso; omega)
      all_goals
       clear HR h1 h2 h3 hI aT; go_wp2_with fail; refine (Tryz.strings_IndexByte _ _ _).mono ?_; rintro e w1 ⟨rfl, rfl⟩; have hx := cM.out
       revert hx
       have cC : ({ data := #[32, 9, 10] } : ByteArray).data.toList = [32, 9, 10] := rfl; rw [cC]; generalize Lib.indexByte [32, 9, 10] ((k : Int).toNat.toUInt8) = z; intro hx; cases hb : (k == 32 || k == 9 || k == 10) with
       | true =>
         have hz : (0 : Int) <= z := by rw [hb] at hx; simpa using hx
         have HB := Hi hb; clear hx hb; go_wp2_with fail; exact ⟨⟨k + 1, by omega, by go_num, HI.out.set (by rw [H3.out, if_pos (by have := HB.out; simp at this; omega)])⟩, by simp [intOf]; omega⟩
       | false =>
         have hz : ¬ (0 : Int) <= z := by rw [hb] at hx; simpa using hx
         have HB := Hi hb; clear hx hb; go_wp2_with fail; refine (Tryz.strings_IndexByte _ _ _).mono ?_; rintro e w1 ⟨rfl, rfl⟩; have hx := dT.out
         revert hx
         have cC : ({ data := #[59, 44, 46, 58, 40, 41, 91, 93, 123, 125, 61] } : ByteArray).data.toList = [59, 44, 46, 58, 40, 41, 91, 93, 123, 125, 61] := rfl; rw [cC]; generalize Lib.indexByte [59, 44, 46, 58, 40, 41, 91, 93, 123, 125, 61] ((k : Int).toNat.toUInt8) = z2; intro hx; cases hs : (k == 59 || k == 44 || k == 46 || k == 58 || k == 40 || k == 41 || k == 91 || k == 93 || k == 123 || k == 125 || k == 61) with
         | true =>
           have dD : (0 : Int) <= z2 := by rw [hs] at hx; simpa using hx
           have HS := Hi hs; clear hx hs; go_wp2_with fail; exact ⟨⟨k + 1, by omega, by go_num, HI.out.set (by rw [H3.out, if_neg (by have := HB.out; simp at this; omega), if_pos (by have := HS.out; simp at this; omega)])⟩, by simp [intOf]; omega⟩
         | false =>
           have dD : ¬ (0 : Int) <= z2 := by rw [hs] at hx; simpa using hx
           have HS := Hi hs; clear hx hs; have hq : ((k : Int) == 60) = (k == 60) := by rw [Bool.eq_iff_iff]; simp; omega
           have cT : ((k : Int) == 62) = (k == 62) := by rw [Bool.eq_iff_iff]; simp; omega
           cases bC : (k == 60) with
           | true =>
             rw [bC] at hq; have cR := Hi bC; clear bC; go_wp2_with fail; exact ⟨⟨k + 1, by omega, by go_num, HI.out.set (by rw [H3.out, if_neg (by have := HB.out; simp at this; omega), if_neg (by have := HS.out; simp at this; omega), if_pos (by have := cR.out; simp at this; omega)])⟩, by simp [intOf]; omega⟩
           | false =>
             rw [bC] at hq; have cR := Hi bC; clear bC; cases bB : (k == 62) with
             | true =>
               rw [bB] at cT; have cQ := Hi bB; clear bB; go_wp2_with fail; exact ⟨⟨k + 1, by omega, by go_num, HI.out.set (by rw [H3.out, if_neg (by have := HB.out; simp at this; omega), if_neg (by have := HS.out; simp at this; omega), if_pos (by have := cQ.out; simp at this; omega)])⟩, by simp [intOf]; omega⟩
             | false =>
               rw [bB] at cT; have cQ := Hi bB; clear bB; go_wp2_with fail; exact ⟨⟨k + 1, by omega, by go_num, HI.out.none (by rw [H3.out, if_neg (by have := HB.out; simp at this; omega), if_neg (by have := HS.out; simp at this; omega), if_neg (by have := cR.out; have := cQ.out; simp at *; omega)])⟩, by simp [intOf]; omega⟩
end
set_option maxRecDepth 20000
set_option maxHeartbeats 1000000
section
open Go.RowKit
def K5 (l : List UInt8) (i : Nat) : Nat := match l[i]? with | none => 0 | some c => Zu c.toNat
theorem Gc {l : List UInt8} {i : Nat} {c : UInt8} (h : l[i]? = some c) : ∀ hh, (({ data := l.toArray } : ByteArray)[i]'hh) = c := by
 intro hh; obtain ⟨h1, h2⟩ := List.getElem?_eq_some_iff.1 h; exact h2
theorem qhb (l : List UInt8) (bt bc : Nat) (w : World) (ht : w.cell? ⟨bt, 0, none⟩ = some (vs l)) (hc : Tab Zu w bc) (i : Nat) (hl : l.length <= 1000000) :
 Calls Tryz.prog 115 #[.int .i64 i, .pointer (some ⟨bt, 0, none⟩), .pointer (some ⟨bc, 0, none⟩)] w fun e w' => e = .returned (.int .u8 (K5 l i)) /\ w' = w := by
 have HC := Hi hc; have cV := hc.lt; clear hc
 by_cases hi : i < l.length
 · obtain ⟨c, hx⟩ := gLt hi; have cH : K5 l i = Zu c.toNat := by simp [K5, hx]
   have h1 : (i : Int) < l.length := by omega
   have h2 : c.toNat < 256 := UInt8.toNat_lt c; obtain ⟨c0, -⟩ := HC.out.cell h2; have h3 : (c.toNat : Int) < 256 := by omega
   have h4 : (0 : Int) <= i := by omega
   have h5 : (0 : Int) <= c.toNat := by omega
   have hb := Gc hx; rw [cH]; clear hx hi; go_enter Tryz.func115, Tryz.ntmps115
   go_wp2_with fail; go_ret; exact ⟨rfl, rfl⟩
 · have cH : K5 l i = 0 := by simp [K5]; rw [List.getElem?_eq_none (by omega)]
   have h1 : ¬ (i : Int) < l.length := by omega
   rw [cH]; go_enter Tryz.func115, Tryz.ntmps115
   go_wp2_with fail; go_ret; exact ⟨rfl, rfl⟩
end
set_option maxRecDepth 100000
set_option maxHeartbeats 4000000
section
open Go.RowKit Go.Shelf
attribute [local go_sem] Oper.semAt_some
def encT (x : Tok × Nat) : Array Value := #[.agg #[.int .i64 x.1.kind, vs x.1.text, .int .i64 x.1.n, .int .i64 x.1.pos, .int .i64 x.2]]
def Xr (ts : List Tok) : List (Tok × Nat) := ts.map fun t => (t, 0)
def qhl (l : List UInt8) (xs : List (Tok × Nat)) : Prop :=
 (∃ ts, xs = Xr ts /\ sc l 0 = (ts, none)) \/ (∃ ts t e, xs = Xr ts ++ [(t, e)] /\ e ≠ 0 /\ sc l 0 = (ts, some (e, t.pos)))
def PreT (l : List UInt8) (xs : List (Tok × Nat)) : Prop :=
 (∃ ts us o, xs = Xr ts /\ sc l 0 = (ts ++ us, o)) \/ (∃ ts t e, xs = Xr ts ++ [(t, e)] /\ e ≠ 0 /\ sc l 0 = (ts, some (e, t.pos)))
structure Mid (lo n₀ : Nat) (A B : World) : Prop where
 size : A.heap.size <= B.heap.size
 block : ∀ k, lo <= k -> k < n₀ -> B.heap[k]? = A.heap[k]?
theorem Mid.refl (lo n₀ : Nat) (A : World) : Mid lo n₀ A A := ⟨lR _, fun _ _ _ => rfl⟩
theorem Mid.trans {lo n₀ : Nat} {A B C : World} (h : Mid lo n₀ A B) (k : Mid lo n₀ B C) : Mid lo n₀ A C := ⟨Nat.le_trans h.size k.size, fun i h1 h2 => (k.block i h1 h2).trans (h.block i h1 h2)⟩
theorem Mid.of_below {lo n₀ : Nat} {A B : World} (h : Below n₀ A B) : Mid lo n₀ A B := ⟨h.size, fun i _ h2 => h.block i h2⟩
def KpT (lo n₀ : Nat) (A B : World) : Prop := Mid lo n₀ A B /\ ∀ (k : Nat) (C : Array Value) (fr : Nat × Nat), A.heap[k]? = some (.cells C 144 fr) -> B.heap[k]? = some (.cells C 144 fr)
structure Np (w : World) (l : List UInt8) (bt ba bc lo n₀ : Nat) : Prop where
 text : w.cell? ⟨bt, 0, none⟩ = some (vs l)
 at' : w.cell? ⟨ba, 0, none⟩ = some (.func (.func 115) #[] #[.pointer (some ⟨bt, 0, none⟩), .pointer (some ⟨bc, 0, none⟩)])
 tab : Tab Zu w bc
 lt : (lo <= bt /\ bt < n₀) /\ (lo <= ba /\ ba < n₀) /\ (lo <= bc /\ bc < n₀)
 le : n₀ <= w.heap.size
theorem Np.mid {w w' : World} {l : List UInt8} {bt ba bc lo n₀ : Nat} (h : Np w l bt ba bc lo n₀) (hb : Mid lo n₀ w w') : Np w' l bt ba bc lo n₀ :=
 ⟨(cOh (hb.block _ h.lt.1.1 h.lt.1.2) 0).trans h.text, (cOh (hb.block _ h.lt.2.1.1 h.lt.2.1.2) 0).trans h.at', h.tab.keep (hb.block _ h.lt.2.2.1 h.lt.2.2.2), h.lt, Nat.le_trans h.le hb.size⟩
def qhj (l : List UInt8) (i kind k n err : Nat) : Prop := ∃ c r, l.drop i = c :: r /\ Z2 c = false /\ c ≠ 35 /\ i + k <= l.length /\ (err = 0 /\ Qt c r = .ok (kind, k, n) \/ err ≠ 0 /\ Qt c r = .error err)
theorem Df {α : Type} {p : α -> Bool} : ∀ {d : List α} {j : Nat}, j < (d.takeWhile p).length -> ∃ x, d[j]? = some x /\ p x = true
 | [], j, h => by simp at h
 | a :: d, j, h => by
   by_cases ha : p a = true
   · rw [List.takeWhile_cons_of_pos ha] at h; cases j with
     | zero => exact ⟨a, rfl, ha⟩
     | succ j => exact Df (d := d) (by simpa using h)
   · rw [List.takeWhile_cons_of_neg ha] at h; simp at h
theorem B7 {α : Type} {p : α -> Bool} : ∀ {d : List α} {x : α}, d[(d.takeWhile p).length]? = some x -> p x = false
 | [], x, h => by simp at h
 | a :: d, x, h => by
   by_cases ha : p a = true
   · rw [List.takeWhile_cons_of_pos ha] at h; exact B7 (d := d) (by simpa using h)
   · rw [List.takeWhile_cons_of_neg ha] at h; simp at h; subst h; simpa using ha
theorem qgw {l : List UInt8} {i : Nat} {c : UInt8} {r : List UInt8} (h : l.drop i = c :: r) : l[i]? = some c := by
 have : (l.drop i)[0]? = some c := by rw [h]; rfl
 rwa [List.getElem?_drop, Nat.add_zero] at this
theorem Up {l : List UInt8} {i : Nat} {c : UInt8} {r : List UInt8} (h : l.drop i = c :: r) (k : Nat) : l.drop (i + 1 + k) = r.drop k := by
 rw [Nat.add_assoc, <- List.drop_drop, h, Nat.add_comm 1 k, List.drop_succ_cons]
theorem qgv {l : List UInt8} {i : Nat} {c : UInt8} {r : List UInt8} (h : l.drop i = c :: r) : l.length = i + 1 + r.length := by
 have := congrArg List.length h; simp at this; omega
theorem Pb {l : List UInt8} {i : Nat} {c : UInt8} (h : l[i]? = some c) : K5 l i = Zu c.toNat := by simp [K5, h]
theorem qg0 {x : UInt8} (h : wordB x = true) : Zu x.toNat = 3 \/ Zu x.toNat = 4 \/ Zu x.toNat = 5 := by
 have f := V4 x; simp only [wordB, Bool.or_eq_true] at h; rcases h with (h | h) | h
 · exact .inl (by have := f.letter; rw [h] at this; simpa using this)
 · exact .inr (.inl (by have := f.digit; rw [h] at this; simpa using this))
 · exact .inr (.inr (by have := f.under; rw [h] at this; simpa using this))
theorem qah {x : UInt8} (h : wordB x = false) : Zu x.toNat ≠ 3 /\ Zu x.toNat ≠ 4 /\ Zu x.toNat ≠ 5 := by
 have f := V4 x; simp only [wordB, Bool.or_eq_false_iff] at h; obtain ⟨⟨h1, h2⟩, h3⟩ := h; refine ⟨?_, ?_, ?_⟩
 · have := f.letter; rw [h1] at this; simpa using this
 · have := f.digit; rw [h2] at this; simpa using this
 · have := f.under; rw [h3] at this; simpa using this
theorem C3 {l : List UInt8} {m : Nat} (h : ∀ x, l[m]? = some x -> wordB x = false) : K5 l m ≠ 3 /\ K5 l m ≠ 4 /\ K5 l m ≠ 5 := by
 cases hx : l[m]? with
 | none => simp [K5, hx]
 | some x => rw [Pb hx]; exact qah (h x hx)
theorem Yx {w w' : World} (h : Below w.heap.size w w') : w.grownBy w' none := ⟨h.os, h.tape, h.output, h.size, fun k hk _ => h.block k hk⟩
theorem Me {x k : UInt8} (e : x.toNat = k.toNat) : x = k := UInt8.toNat_inj.1 e
theorem Sg (l : List UInt8) (bt bc : Nat) (w : World) (ht : w.cell? ⟨bt, 0, none⟩ = some (vs l)) (hc : Tab Zu w bc) (m : Int) (i : Nat) (hm : m = (i : Int)) (hl : l.length <= 1000000) :
 Calls Tryz.prog 115 #[.int .i64 m, .pointer (some ⟨bt, 0, none⟩), .pointer (some ⟨bc, 0, none⟩)] w fun e w' => e = .returned (.int .u8 (K5 l i)) /\ w' = w := by
 subst hm; exact qhb l bt bc w ht hc i hl
theorem V1 {c : UInt8} (r : List UInt8) (F : Kr c) (hk : Zu c.toNat = 0 \/ Zu c.toNat = 5) : Z2 c = false /\ c ≠ 35 /\ Qt c r = .error 3 := by
 have h1 := F.letter; have h2 := F.digit; have h3 := F.blank; have h4 := F.sym; have h5 := F.pre; have h6 := F.hash; have h7 := F.bang
 rcases hk with hk | hk <;>
  (rw [hk] at h1 h2 h3 h4 h5 h6 h7
   refine ⟨h3.symm, by simpa using h6.symm, ?_⟩; have bL : ¬ c = 33 := by simpa using h7.symm
   unfold Qt; rw [<- h1, <- h2, <- h4, <- h5, if_neg bL]; rfl)
theorem To {c : UInt8} (r : List UInt8) (F : Kr c) (hk : Zu c.toNat = 3) : Z2 c = false /\ c ≠ 35 /\ wordB c = true /\ Qt c r = if 24 < (r.takeWhile wordB).length + 1 then .error 2 else .ok (1, (r.takeWhile wordB).length + 1, 0) := by
 have h1 := F.letter; have h3 := F.blank; have h6 := F.hash; rw [hk] at h1 h3 h6; refine ⟨h3.symm, by simpa using h6.symm, by simp [wordB, <- h1], ?_⟩; unfold Qt; rw [<- h1]; rfl
theorem qdj {c : UInt8} (r : List UInt8) (F : Kr c) (hk : Zu c.toNat = 4) : Z2 c = false /\ c ≠ 35 /\ digitB c = true /\ Qt c r = if 7 < (r.takeWhile digitB).length + 1 \/ ((r.drop (r.takeWhile digitB).length).head?.any wordB) = true then .error 4 else .ok (2, (r.takeWhile digitB).length + 1, B6 (c :: r.takeWhile digitB)) := by
 have h1 := F.letter; have h2 := F.digit; have h3 := F.blank; have h6 := F.hash; rw [hk] at h1 h2 h3 h6; refine ⟨h3.symm, by simpa using h6.symm, h2.symm, ?_⟩; unfold Qt; rw [<- h1, <- h2]; rfl
theorem Cs {c : UInt8} (r : List UInt8) (F : Kr c) (hk : Zu c.toNat = 6) : Z2 c = false /\ c ≠ 35 /\ Qt c r = .ok (3, 1, 0) := by
 have h1 := F.letter; have h2 := F.digit; have h3 := F.blank; have h4 := F.sym; have h6 := F.hash; rw [hk] at h1 h2 h3 h4 h6; refine ⟨h3.symm, by simpa using h6.symm, ?_⟩; unfold Qt; rw [<- h1, <- h2, <- h4]; rfl
theorem qif {c : UInt8} (r : List UInt8) (F : Kr c) (hk : Zu c.toNat = 7) : Z2 c = false /\ c ≠ 35 /\ Qt c r = if r.head? = some 61 then .ok (3, 2, 0) else .ok (3, 1, 0) := by
 have h1 := F.letter; have h2 := F.digit; have h3 := F.blank; have h4 := F.sym; have h5 := F.pre; have h6 := F.hash; rw [hk] at h1 h2 h3 h4 h5 h6; refine ⟨h3.symm, by simpa using h6.symm, ?_⟩; unfold Qt; rw [<- h1, <- h2, <- h4, <- h5]; rfl
theorem qf9 {c : UInt8} (r : List UInt8) (F : Kr c) (hk : Zu c.toNat = 8) : Z2 c = false /\ c ≠ 35 /\ Qt c r = if r.head? = some 61 then .ok (3, 2, 0) else .error 3 := by
 have h1 := F.letter; have h2 := F.digit; have h3 := F.blank; have h4 := F.sym; have h5 := F.pre; have h6 := F.hash; have h7 := F.bang; rw [hk] at h1 h2 h3 h4 h5 h6 h7; refine ⟨h3.symm, by simpa using h6.symm, ?_⟩; have bL : c = 33 := by simpa using h7.symm
 unfold Qt; rw [<- h1, <- h2, <- h4, <- h5, if_pos bL]; rfl
theorem qgt {l : List UInt8} {i : Nat} {c : UInt8} {r : List UInt8} (h : l.drop i = c :: r) : l.drop (i + 1) = r := by simpa using Up h 0
theorem B8 {p : UInt8 -> Bool} {l : List UInt8} {i : Nat} {c : UInt8} {r : List UInt8} (h : l.drop i = c :: r) (hp : p c = true) : ((l.drop i).takeWhile p).length = (r.takeWhile p).length + 1 := by rw [h, List.takeWhile_cons_of_pos hp]; simp
theorem qer {p : UInt8 -> Bool} (l : List UInt8) (i : Nat) : ((l.drop i).takeWhile p).length <= l.length - i := by have := Kj p (l.drop i); simpa using this
theorem qg2 {c : UInt8} (F : Kr c) (hk : Zu c.toNat = 2) : c = 35 := by have := F.hash; rw [hk] at this; simpa using this.symm
theorem qd1 {c : UInt8} (F : Kr c) (hk : Zu c.toNat = 1) : Z2 c = true := by have := F.blank; rw [hk] at this; simpa using this.symm
theorem qdz {x : UInt8} (h : digitB x = true) : Zu x.toNat = 4 := by have := (V4 x).digit; rw [h] at this; simpa using this
theorem F7 {x : UInt8} (h : digitB x = false) : Zu x.toNat ≠ 4 := by have := (V4 x).digit; rw [h] at this; simpa using this
theorem Uy (ts : List Tok) (t : Tok) : Xr ts ++ [(t, 0)] = Xr (ts ++ [t]) := by simp [Xr]
theorem qhc {l : List UInt8} {i k : Nat} {c : UInt8} {r : List UInt8} (h : l.drop i = c :: r) (bE : ∀ x, l[i + 1 + k]? = some x -> digitB x = false) : ((r.drop k).head?.any wordB) = (K5 l (i + 1 + k) == 3 || K5 l (i + 1 + k) == 5) := by
 have e : (r.drop k).head? = l[i + 1 + k]? := by rw [<- Up h k, List.head?_drop]
 rw [e]; cases hx : l[i + 1 + k]? with
 | none => simp [K5, hx]
 | some x =>
   have f := V4 x; rw [Pb hx, f.letter, f.under]; simp [wordB, bE x hx]
theorem Wx (l : List UInt8) (i n : Nat) : ({ data := l.toArray } : ByteArray).extract i n = ⟨((l.drop i).take (n - i)).toArray⟩ := by
 apply ByteArray.ext; rw [ByteArray.data_extract]; apply Array.ext'; simp [List.extract_eq_take_drop]
theorem F3 : ∀ (s : List UInt8) (acc : Nat), (∀ c ∈ s, digitB c = true) -> Lib.decFrom acc s = some (s.foldl (fun a c => 10 * a + (c.toNat - 48)) acc)
 | [], acc, _ => rfl
 | b :: s, acc, h => by
   have hb : digitB b = true := h b (by simp)
   have hv : Lib.digitVal b = some (b.toNat - 48) := by
    unfold Lib.digitVal; simp only [digitB, Bool.and_eq_true, decide_eq_true_eq] at hb; rw [if_pos ⟨by have := UInt8.le_iff_toNat_le.1 hb.1; simpa using this, by have := UInt8.le_iff_toNat_le.1 hb.2; simpa using this⟩]
   rw [Lib.decFrom, hv, List.foldl_cons]; show Lib.decFrom (acc * 10 + (b.toNat - 48)) s = _
   rw [F3 s _ (fun c hc => h c (by simp [hc])), Nat.mul_comm acc 10]
theorem qea (c : UInt8) (s : List UInt8) (h : ∀ x ∈ c :: s, digitB x = true) : Lib.atoi (c :: s) = some (B6 (c :: s) : Int) := by
 have hc := h c (by simp)
 have h1 : (c == 45) = false := by
  cases hq : (c == 45) with
  | false => rfl
  | true => simp at hq; subst hq; revert hc; decide
 have h2 : (c == 43) = false := by
  cases hq : (c == 43) with
  | false => rfl
  | true => simp at hq; subst hq; revert hc; decide
 simp only [Lib.atoi, Lib.decNat, h1, h2, Bool.false_eq_true, if_false, List.isEmpty_cons, F3 _ _ h]; rfl
theorem qhu {p : UInt8 -> Bool} {l : List UInt8} {i : Nat} {c : UInt8} {r : List UInt8} (h : l.drop i = c :: r) : (l.drop i).take ((r.takeWhile p).length + 1) = c :: r.takeWhile p := by
 rw [h, List.take_succ_cons]
 congr 1
 exact (List.prefix_iff_eq_take.1 (List.takeWhile_prefix p)).symm
theorem T9 {c : UInt8} {r : List UInt8} (hc : digitB c = true) : ∀ x ∈ c :: r.takeWhile digitB, digitB x = true := by
 intro x hx; rcases List.mem_cons.1 hx with rfl | hx
 · exact hc
 · obtain ⟨k, hk⟩ := List.mem_iff_getElem?.1 hx; obtain ⟨bO, aT⟩ := List.getElem?_eq_some_iff.1 hk; obtain ⟨y, hy, hp⟩ := Df (p := digitB) (d := r) (j := k) bO
   have : (r.takeWhile digitB)[k]? = r[k]? := by
    rw [List.prefix_iff_eq_take.1 (List.takeWhile_prefix digitB), List.getElem?_take, if_pos bO]
   rw [this, hy] at hk; cases hk; exact hp
theorem Sd (w : World) (e : TypeId) (s : ByteArray) : Below w.heap.size w (Lib.bytesWorld w e s) := ⟨rfl, rfl, rfl, by rw [Lib.bytesWorld_size]; omega, fun k hk => Lib.bytesWorld_at_old w e s k hk⟩
theorem qa2 {l : List UInt8} {i kind k n : Nat} {ts : List Tok} (h : qhj l i kind k n 0) (hs : sc l 0 = (ts ++ (sc (l.drop i) i).1, (sc (l.drop i) i).2)) :
 1 <= k /\ i + k <= l.length /\ sc l 0 = ((ts ++ [⟨kind, (l.drop i).take k, n, i⟩]) ++ (sc (l.drop (i + k)) (i + k)).1, (sc (l.drop (i + k)) (i + k)).2) := by
 obtain ⟨c, r, hd, h1, h2, h3, ⟨-, h4⟩ | ⟨h4, -⟩⟩ := h
 · have hk := (G6 h4).1; refine ⟨hk, h3, ?_⟩; have e : i + 1 + (k - 1) = i + k := by omega
   rw [hs, hd, Gu _ h1 h2 h4, <- Up hd, e]; simp
 · exact absurd rfl h4
theorem Dn {l : List UInt8} {i kind k n err : Nat} {ts : List Tok} (h : qhj l i kind k n err) (he : err ≠ 0) (hs : sc l 0 = (ts ++ (sc (l.drop i) i).1, (sc (l.drop i) i).2)) : sc l 0 = (ts, some (err, i)) := by
 obtain ⟨c, r, hd, h1, h2, h3, ⟨h4, -⟩ | ⟨-, h4⟩⟩ := h
 · exact absurd h4 he
 · rw [hs, hd, Cg _ h1 h2 h4]; simp
theorem qeu (lp bt ba bc lo n₀ : Nat) (l : List UInt8) (hl : l.length <= 20000) (J Jx : List (Tok × Nat) -> World -> Prop) (W : World) (hT : Np W l bt ba bc lo n₀) (hJ : AbidesFrom W.heap.size J)
 (hY : ∀ pre x W1, J pre W1 -> pre.length < 20000 -> YieldAt Fence.wide 7 Tryz.prog lp (encT x) W1 fun e W' =>
   (e = .returned (.bool true) /\ J (pre ++ [x]) W' /\ KpT lo n₀ W1 W') \/ (e = .returned (.bool false) /\ Jx (pre ++ [x]) W')) (h0 : J [] W) :
 Calls Tryz.prog 116 #[.func (.yield lp) #[] #[], .pointer (some ⟨bt, 0, none⟩), .pointer (some ⟨ba, 0, none⟩)] W fun e W' => (∃ v, e = .returned v) /\
  ((∃ xs, qhl l xs /\ J xs W') \/ (∃ pre, PreT l pre /\ Jx pre W')) := by
 have HT := Hi hT; have HJ := Hi hJ; have HY := Hi hY; have eF : (l.length : Int) <= 20000 := by omega
 clear hT hJ hY; go_enter Tryz.func116, Tryz.ntmps116
 go_wp2_with fail; go_step3
 go_wp2_with fail; go_step3
 go_wp2_with fail; go_loopw [4] (fun v wr => ∃ (i : Nat) (ts : List Tok), i <= l.length /\ ts.length <= i /\ v = .int .i64 i /\ sc l 0 = (ts ++ (sc (l.drop i) i).1, (sc (l.drop i) i).2) /\ J (Xr ts) wr /\ Mid lo n₀ W wr) (fun v _ => l.length - (intOf v).toNat)
 case atStart => exact ⟨0, [], Nat.zero_le _, lR _, rfl, rfl, h0, Mid.refl _ _ _⟩
 case round =>
  obtain ⟨i, ts, hi, eD, rfl, cS, hj, aF⟩ := hrel; have aG := Hi (HT.out.mid aF); have dO := aG.out.text; have dQ := aG.out.at'; have dJ : bt < wr.heap.size /\ ba < wr.heap.size := ⟨by have := aG.out.lt; have := aG.out.le; omega, by have := aG.out.lt; have := aG.out.le; omega⟩
  obtain ⟨dI, dH⟩ := dJ; have aZ := Hi cS; have bM := Hi hj; have HB := Hi aF; clear cS hj aF
  by_cases cV : i < l.length
  · have bX : (i : Int) < l.length := by omega
    have eH : (0 : Int) <= i := by omega
    obtain ⟨c, r, bP⟩ : ∃ c r, l.drop i = c :: r := by
     cases hd : l.drop i with
     | nil => have := congrArg List.length hd; simp at this; omega
     | cons c r => exact ⟨c, r, rfl⟩
    have hx := qgw bP; have aS := qgv bP; have bQ := Pb hx; have HF := Hi (V4 c); have aA := Hi bP; have HX := Hi hx; clear bP hx; go_wp2_with fail; obtain ⟨wA, rfl⟩ : ∃ x, x = wr := ⟨wr, rfl⟩
    have aC : Below n₀ wA (wA.alloc (.cells #[.int .i64 0, .string ⟨#[]⟩, .int .i64 0, .int .i64 i, .int .i64 0] 144)) := (Below.refl _ _).alloc aG.out.le _; have cG := (aG.out.mid (Mid.of_below aC)).text; have dP := (aG.out.mid (Mid.of_below aC)).at'; have dV := Hi (aG.out.mid (Mid.of_below aC)); have aP := Hi aC; have aE : Hid (∀ o : Obj, Np (wA.alloc o) l bt ba bc lo n₀) := Hi (fun o => aG.out.mid (Mid.of_below ((Below.refl _ _).alloc aG.out.le o))); clear aC; refine (qhb l bt bc _ cG dV.out.tab i (by omega)).mono ?_; rintro e w1 ⟨rfl, rfl⟩; go_upto_block 2 with fail
    go_cut [4] from 10 to 147 (fun s4 wc => ∃ (kind k n err : Nat), s4 = .int .i64 ((i + k : Nat) : Int) /\ qhj l i kind k n err /\ Below wA.heap.size wA wc /\ wc.heap[wA.heap.size]? = some (.cells #[.int .i64 kind, vs [], .int .i64 n, .int .i64 i, .int .i64 err] 144 (0, 0)))
    case first =>
     have bT := Hi bQ; have aW := Hi aS; clear bQ aS; obtain hk | hk | hk | hk | hk | hk | hk | hk | hk : Zu c.toNat = 0 \/ Zu c.toNat = 1 \/ Zu c.toNat = 2 \/ Zu c.toNat = 3 \/ Zu c.toNat = 4 \/ Zu c.toNat = 5 \/ Zu c.toNat = 6 \/ Zu c.toNat = 7 \/ Zu c.toNat = 8 := by have := HF.out.le; omega
     all_goals
      rw [hk]; have HK := Hi hk; clear hk
     · go_wp2_with fail; go_meet
       case rel => exact ⟨0, 0, 0, 3, rfl, ⟨c, r, aA.out, (V1 r HF.out (.inl HK.out)).1, (V1 r HF.out (.inl HK.out)).2.1, hi, .inr ⟨by omega, (V1 r HF.out (.inl HK.out)).2.2⟩⟩, ((Below.refl _ _).alloc (lR _) _), heap_alloc_new _ _⟩
     · go_wp2_with fail; refine ⟨⟨i + 1, ts, by omega, by omega, by go_num, ?_, HJ.out _ _ _ _ bM.out (Yx ((Below.refl _ _).alloc (lR _) _)) (fun r e => by cases e), HB.out.trans (Mid.of_below aP.out)⟩, by simp [intOf]; omega⟩; rw [aZ.out, aA.out, I5 _ _ (qd1 HF.out HK.out), qgt aA.out]
     · have cK := qg2 HF.out HK.out; have aK := B8 (p := (· != 10)) aA.out (by rw [cK]; rfl); have bI := qer (p := (· != 10)) l i; obtain ⟨T, aO⟩ : ∃ T, T = ((l.drop i).takeWhile (· != 10)).length := ⟨_, rfl⟩
       rw [<- aO] at aK bI; have dC := Hi cK; have aD := Hi aK; have aY := Hi aO; clear cK aK aO; go_wp2_with fail; go_loopw [4] (fun v wr' => wr' = (wA.alloc (.cells #[.int .i64 0, .string ⟨#[]⟩, .int .i64 0, .int .i64 i, .int .i64 0] 144)) /\ ∃ (j : Nat) (m : Int), j <= T /\ m = ((i + j : Nat) : Int) /\ v = .int .i64 m) (fun v _ => l.length + 1 - (intOf v).toNat)
       case atStart => exact ⟨rfl, 0, i, Nat.zero_le _, rfl, rfl⟩
       case round =>
        obtain ⟨rfl, j, m, hj, hm, rfl⟩ := hrel; have bW : (0 : Int) <= m := (by omega)
        have cU : m <= 20000 := (by omega)
        have HM := Hi hm
        by_cases bG : j < T
        · obtain ⟨x, hx, aJ⟩ := Df (p := (· != 10)) (d := l.drop i) (j := j) (by rw [<- aY.out]; exact bG); rw [List.getElem?_drop] at hx; have hb := Gc hx; have dG : m < l.length := by have := (List.getElem?_eq_some_iff.1 hx).1; omega
          have dE : ((x.toNat : Int) != 10) = true := by
           have : x.toNat ≠ 10 := fun e => by rw [Me (k := 10) e] at aJ; simp at aJ
           simp; omega
          have aH : m.toNat = i + j := (by omega)
          have dR : ∀ hh, (({ data := l.toArray } : ByteArray)[m.toNat]'hh) = x := by rw [aH]; exact hb
          clear hx aJ hb aH hm; go_wp2_with fail; exact ⟨⟨trivial, j + 1, m + 1, by omega, by have := HM.out; omega, rfl⟩, by have := HM.out; simp [intOf]; omega⟩
        · obtain rfl : j = T := by omega
          by_cases dN : m < l.length
          · obtain ⟨x, hx⟩ : ∃ x, l[i + j]? = some x := gLt (by omega)
            have aJ : (x != 10) = false := by
             refine B7 (p := (· != 10)) (d := l.drop i) (x := x) ?_; rw [<- aY.out, List.getElem?_drop]; exact hx
            have dE : ((x.toNat : Int) != 10) = false := by
             have : x = 10 := by simpa using aJ
             rw [this]; rfl
            have aH : m.toNat = i + j := (by omega)
            have dR : ∀ hh, (({ data := l.toArray } : ByteArray)[m.toNat]'hh) = x := by rw [aH]; exact Gc hx
            clear hx aJ aH hm; go_wp2_with fail; refine ⟨⟨i + j, ts, by have := aD.out; omega, by omega, by rw [HM.out], ?_, HJ.out _ _ _ _ bM.out (Yx ((Below.refl _ _).alloc (lR _) _)) (fun r e => by cases e), HB.out.trans (Mid.of_below aP.out)⟩, by have := HM.out; have := aD.out; simp [intOf]; omega⟩; have e : i + j = i + 1 + (r.takeWhile (· != 10)).length := by have := aD.out; omega
            rw [aZ.out, e, Up aA.out, aA.out, dC.out, Hz]
          · clear hm; go_wp2_with fail; refine ⟨⟨i + j, ts, by have := aD.out; omega, by omega, by rw [HM.out], ?_, HJ.out _ _ _ _ bM.out (Yx ((Below.refl _ _).alloc (lR _) _)) (fun r e => by cases e), HB.out.trans (Mid.of_below aP.out)⟩, by have := HM.out; have := aD.out; simp [intOf]; omega⟩; have e : i + j = i + 1 + (r.takeWhile (· != 10)).length := by have := aD.out; omega
            rw [aZ.out, e, Up aA.out, aA.out, dC.out, Hz]
     · have HL := Hi (To r HF.out HK.out); have aK := B8 (p := wordB) aA.out HL.out.2.2.1; have bI := qer (p := wordB) l i; obtain ⟨T, aO⟩ : ∃ T, T = ((l.drop i).takeWhile wordB).length := ⟨_, rfl⟩
       rw [<- aO] at aK bI; have aD := Hi aK; have aY := Hi aO; clear aK aO; go_wp2_with fail; refine (Sg l bt bc _ (aE.out _).text (aE.out _).tab _ i rfl (by omega)).mono ?_; rintro e w1 ⟨rfl, rfl⟩; go_wp2_with fail; go_loopw [4, 7] (fun v v7 wr' => wr' = (wA.alloc (.cells #[.int .i64 0, .string ⟨#[]⟩, .int .i64 0, .int .i64 i, .int .i64 0] 144)) /\ ∃ (j : Nat) (m : Int), j <= T /\ m = ((i + j : Nat) : Int) /\ v = .int .i64 m /\ v7 = .int .u8 (K5 l (i + j) : Nat)) (fun v _ _ => l.length + 1 - (intOf v).toNat)
       case atStart => exact ⟨rfl, 0, i, Nat.zero_le _, rfl, rfl, rfl⟩
       case round =>
        obtain ⟨rfl, j, m, hj, hm, rfl, rfl⟩ := hrel; have bW : (0 : Int) <= m := (by omega)
        have cU : m <= 20000 := (by omega)
        have HM := Hi hm
        by_cases bG : j < T
        · obtain ⟨x, hx, aJ⟩ := Df (p := wordB) (d := l.drop i) (j := j) (by rw [<- aY.out]; exact bG); rw [List.getElem?_drop] at hx; rw [Pb hx]; have dL := (List.getElem?_eq_some_iff.1 hx).1; have aH : m < l.length := (by omega)
          obtain hq | hq | hq := qg0 aJ
          all_goals
           rw [hq]; clear hx aJ hm hq; go_wp2_with fail; refine (Sg l bt bc _ (aE.out _).text (aE.out _).tab _ (i + (j + 1)) (by have := HM.out; omega) (by omega)).mono ?_; rintro e w1 ⟨rfl, rfl⟩; go_wp2_with fail; exact ⟨⟨trivial, j + 1, m + 1, by omega, by have := HM.out; omega, rfl, rfl⟩, by have := HM.out; simp [intOf]; omega⟩
        · obtain rfl : j = T := by omega
          obtain ⟨n3, n4, n5⟩ := C3 (l := l) (m := i + j) (fun x hx => B7 (p := wordB) (d := l.drop i) (by rw [<- aY.out, List.getElem?_drop]; exact hx)); generalize K5 l (i + j) = q at n3 n4 n5 ⊢; have q3 : ((q : Int) == 3) = false := by simp; omega
          have q4 : ((q : Int) == 4) = false := by simp; omega
          have q5 : ((q : Int) == 5) = false := by simp; omega
          by_cases eI : 24 < j
          · have cL : (24 : Int) < m - i := by omega
            clear hm n3 n4 n5; go_wp2_with fail; go_meet
            case rel => exact ⟨1, j, 0, 2, by rw [HM.out], ⟨c, r, aA.out, HL.out.1, HL.out.2.1, by omega, .inr ⟨by omega, by rw [HL.out.2.2.2, if_pos (by have := aD.out; omega)]⟩⟩, ((Below.refl _ _).alloc (lR _) _), heap_alloc_new _ _⟩
          · have cL : ¬ (24 : Int) < m - i := by omega
            clear hm n3 n4 n5; go_wp2_with fail; go_meet
            case rel => exact ⟨1, j, 0, 0, by rw [HM.out], ⟨c, r, aA.out, HL.out.1, HL.out.2.1, by omega, .inl ⟨rfl, by rw [HL.out.2.2.2, if_neg (by have := aD.out; omega), <- aD.out]⟩⟩, ((Below.refl _ _).alloc (lR _) _), heap_alloc_new _ _⟩
     · have HL := Hi (qdj r HF.out HK.out); have aK := B8 (p := digitB) aA.out HL.out.2.2.1; have bI := qer (p := digitB) l i; obtain ⟨T, aO⟩ : ∃ T, T = ((l.drop i).takeWhile digitB).length := ⟨_, rfl⟩
       rw [<- aO] at aK bI; have aD := Hi aK; have aY := Hi aO; clear aK aO; go_wp2_with fail; go_loopw [4] (fun v wr' => wr' = (wA.alloc (.cells #[.int .i64 0, .string ⟨#[]⟩, .int .i64 0, .int .i64 i, .int .i64 0] 144)) /\ ∃ (j : Nat) (m : Int), j <= T /\ m = ((i + j : Nat) : Int) /\ v = .int .i64 m) (fun v _ => l.length + 1 - (intOf v).toNat)
       case atStart => exact ⟨rfl, 0, i, Nat.zero_le _, rfl, rfl⟩
       case round =>
        obtain ⟨rfl, j, m, hj, hm, rfl⟩ := hrel; have bW : (0 : Int) <= m := (by omega)
        have cU : m <= 20000 := (by omega)
        have HM := Hi hm
        by_cases bG : j < T
        · obtain ⟨x, hx, aJ⟩ := Df (p := digitB) (d := l.drop i) (j := j) (by rw [<- aY.out]; exact bG); rw [List.getElem?_drop] at hx; have cE := Pb hx; have dL := (List.getElem?_eq_some_iff.1 hx).1; have aH : m < l.length := (by omega)
          rw [qdz aJ] at cE; have eB := Hi cE; clear hx aJ hm cE; go_wp2_with fail; refine (Sg l bt bc _ (aE.out _).text (aE.out _).tab _ (i + j) HM.out (by omega)).mono ?_; rintro e w1 ⟨rfl, rfl⟩; rw [eB.out]; go_wp2_with fail; go_roundw
          case rel =>
           repeat apply Exists.intro
           exact ⟨⟨trivial, j + 1, m + 1, by omega, by have := HM.out; omega, rfl⟩, rfl⟩
          case measure => have := HM.out; simp [intOf]; omega
        · obtain rfl : j = T := by omega
          have bE : ∀ x, l[i + j]? = some x -> digitB x = false := fun x hx => B7 (p := digitB) (d := l.drop i) (by rw [<- aY.out, List.getElem?_drop]; exact hx)
          have bF : K5 l (i + j) ≠ 4 := by
           cases hx : l[i + j]? with
           | none => simp [K5, hx]
           | some x => rw [Pb hx]; exact F7 (bE x hx)
          have e : i + j = i + 1 + (r.takeWhile digitB).length := by have := aD.out; omega
          have cJ := qhc (k := (r.takeWhile digitB).length) aA.out (by rw [<- e]; exact bE); rw [<- e] at cJ; have cP := Hi cJ; have dK : (i : Int) <= m := (by omega)
          have dF : m <= l.length := by have := aW.out; omega
          obtain ⟨q, hq⟩ : ∃ q, q = K5 l (i + j) := ⟨_, rfl⟩
          rw [<- hq] at bF; have HQ := Hi hq; have q4 : ((q : Int) == 4) = false := by simp; omega
          clear bE cJ hq e hm; go_wp2_with fail; refine (Sg l bt bc _ (aE.out _).text (aE.out _).tab _ (i + j) HM.out (by omega)).mono ?_; rintro e w1 ⟨rfl, rfl⟩; rw [<- HQ.out]; go_wp2_with fail; refine (Sg l bt bc _ (aE.out _).text (aE.out _).tab _ (i + j) HM.out (by omega)).mono ?_; rintro e w1 ⟨rfl, rfl⟩; rw [<- HQ.out]
          by_cases h7 : 7 < j
          · have bL : (7 : Int) < m - i := by have := HM.out; omega
            clear bF; go_wp2_with fail; go_meet
            case rel => exact ⟨2, j, 0, 4, by rw [HM.out], ⟨c, r, aA.out, HL.out.1, HL.out.2.1, by omega, .inr ⟨by omega, by rw [HL.out.2.2.2, if_pos (.inl (by have := aD.out; omega))]⟩⟩, ((Below.refl _ _).alloc (lR _) _), heap_alloc_new _ _⟩
          · have bL : ¬ (7 : Int) < m - i := by have := HM.out; omega
            by_cases bN : q = 3
            · have q3 : ((q : Int) == 3) = true := by simp; omega
              have dX := Hi bN; clear bF bN; go_wp2_with fail; go_meet
              case rel => exact ⟨2, j, 0, 4, by rw [HM.out], ⟨c, r, aA.out, HL.out.1, HL.out.2.1, by omega, .inr ⟨by omega, by rw [HL.out.2.2.2, if_pos (.inr (by rw [cP.out, <- HQ.out, dX.out]; rfl))]⟩⟩, ((Below.refl _ _).alloc (lR _) _), heap_alloc_new _ _⟩
            · have q3 : ((q : Int) == 3) = false := by simp; omega
              by_cases bV : q = 5
              · have q5 : ((q : Int) == 5) = true := by simp; omega
                have dW := Hi bV; clear bF bN bV; go_wp2_with fail; go_meet
                case rel => exact ⟨2, j, 0, 4, by rw [HM.out], ⟨c, r, aA.out, HL.out.1, HL.out.2.1, by omega, .inr ⟨by omega, by rw [HL.out.2.2.2, if_pos (.inr (by rw [cP.out, <- HQ.out, dW.out]; rfl))]⟩⟩, ((Below.refl _ _).alloc (lR _) _), heap_alloc_new _ _⟩
              · have q5 : ((q : Int) == 5) = false := by simp; omega
                have dY : Hid (¬ (7 < (r.takeWhile digitB).length + 1 \/ ((r.drop (r.takeWhile digitB).length).head?.any wordB) = true)) := Hi (by
                 rw [cP.out, <- HQ.out]; have := aD.out; simp; omega)
                clear bF bN bV; go_wp2_with fail; refine (Tryz.strconv_Atoi _ (B6 (c :: r.takeWhile digitB) : Int) ?_ ?_ _).mono ?_
                · rw [Wx]; have := HM.out; have aH : m.toNat - i = j := (by omega)
                  simp [ByteArray.size, aH]; omega
                · rw [Wx]; have := HM.out; have aH : m.toNat - i = (r.takeWhile digitB).length + 1 := by have := aD.out; omega
                  rw [aH, qhu aA.out]; exact qea c _ (T9 HL.out.2.2.1)
                rintro e w2 ⟨rfl, t, rfl⟩; have bH := Sd (wA.alloc (.cells #[.int .i64 2, .string ⟨#[]⟩, .int .i64 0, .int .i64 i, .int .i64 0] 144)) 5 t
                revert bH
                generalize Lib.bytesWorld (wA.alloc (.cells #[.int .i64 2, .string ⟨#[]⟩, .int .i64 0, .int .i64 i, .int .i64 0] 144)) 5 t = w2; intro bH; have aM := (bH.block wA.heap.size (by simp)).trans (heap_alloc_new wA _); have d2 := cOb (o := 2) aM rfl; have g2 := fOb (o := 2) aM; have dl := lHp aM; have bS := Hi aM; have eC : Hid (Below wA.heap.size wA w2) := Hi (((Below.refl _ _).alloc (lR _) _).trans (bH.mono (by simp))); clear bH aM; go_wp2_with fail; go_meet
                case rel =>
                 refine ⟨2, j, B6 (c :: r.takeWhile digitB), 0, by rw [HM.out], ⟨c, r, aA.out, HL.out.1, HL.out.2.1, by omega, .inl ⟨rfl, by rw [HL.out.2.2.2, if_neg dY.out, <- aD.out]⟩⟩, eC.out.setCell (lR _) _, ?_⟩; rw [rSc bS.out]; rfl
     · go_wp2_with fail; go_meet
       case rel => exact ⟨0, 0, 0, 3, rfl, ⟨c, r, aA.out, (V1 r HF.out (.inr HK.out)).1, (V1 r HF.out (.inr HK.out)).2.1, hi, .inr ⟨by omega, (V1 r HF.out (.inr HK.out)).2.2⟩⟩, ((Below.refl _ _).alloc (lR _) _), heap_alloc_new _ _⟩
     · go_wp2_with fail; refine (Sg l bt bc _ (aE.out _).text (aE.out _).tab _ i rfl (by omega)).mono ?_; rintro e w1 ⟨rfl, rfl⟩; rw [bT.out, HK.out]; go_wp2_with fail; go_meet
       case rel => exact ⟨3, 1, 0, 0, by go_num, ⟨c, r, aA.out, (Cs r HF.out HK.out).1, (Cs r HF.out HK.out).2.1, by omega, .inl ⟨rfl, (Cs r HF.out HK.out).2.2⟩⟩, ((Below.refl _ _).alloc (lR _) _), heap_alloc_new _ _⟩
     · have HL := Hi (qif r HF.out HK.out); go_wp2_with fail; refine (Sg l bt bc _ (aE.out _).text (aE.out _).tab _ i rfl (by omega)).mono ?_; rintro e w1 ⟨rfl, rfl⟩; rw [bT.out, HK.out]
       by_cases cA : i + 1 < l.length
       · obtain ⟨x, hx⟩ := gLt cA; have hb := Gc hx
         have aR : r.head? = some x := by
          have : (l.drop i)[1]? = some x := by rw [List.getElem?_drop]; exact hx
          rw [aA.out] at this; rw [List.head?_eq_getElem?]; exact this
         have bZ : (i : Int) + 1 < l.length := (by omega)
         have cM := Hi hx
         by_cases aI : x = 61
         · have bA : ((x.toNat : Int) == 61) = true := by rw [aI]; rfl
           have aQ : Hid (r.head? = some 61) := Hi (by rw [aR, aI]); clear aR aI hx; go_wp2_with fail; go_meet
           case rel => exact ⟨3, 2, 0, 0, by go_num, ⟨c, r, aA.out, HL.out.1, HL.out.2.1, by omega, .inl ⟨rfl, by rw [HL.out.2.2, if_pos aQ.out]⟩⟩, ((Below.refl _ _).alloc (lR _) _), heap_alloc_new _ _⟩
         · have bA : ((x.toNat : Int) == 61) = false := by
             have : x.toNat ≠ 61 := fun e => aI (Me e); simp; omega
           have aQ : Hid (¬ r.head? = some 61) := Hi (by rw [aR]; intro e; injection e with e; exact aI e); clear aR aI hx; go_wp2_with fail; go_meet
           case rel => exact ⟨3, 1, 0, 0, by go_num, ⟨c, r, aA.out, HL.out.1, HL.out.2.1, by omega, .inl ⟨rfl, by rw [HL.out.2.2, if_neg aQ.out]⟩⟩, ((Below.refl _ _).alloc (lR _) _), heap_alloc_new _ _⟩
       · have bZ : ¬ (i : Int) + 1 < l.length := by omega
         have aQ : Hid (¬ r.head? = some 61) := Hi (by
          have : r = [] := by have := aW.out; exact List.length_eq_zero_iff.1 (by omega)
          rw [this]; simp)
         go_wp2_with fail; go_meet
         case rel => exact ⟨3, 1, 0, 0, by go_num, ⟨c, r, aA.out, HL.out.1, HL.out.2.1, by omega, .inl ⟨rfl, by rw [HL.out.2.2, if_neg aQ.out]⟩⟩, ((Below.refl _ _).alloc (lR _) _), heap_alloc_new _ _⟩
     · have HL := Hi (qf9 r HF.out HK.out); go_wp2_with fail; refine (Sg l bt bc _ (aE.out _).text (aE.out _).tab _ i rfl (by omega)).mono ?_; rintro e w1 ⟨rfl, rfl⟩; rw [bT.out, HK.out]
       by_cases cA : i + 1 < l.length
       · obtain ⟨x, hx⟩ := gLt cA; have hb := Gc hx
         have aR : r.head? = some x := by
          have : (l.drop i)[1]? = some x := by rw [List.getElem?_drop]; exact hx
          rw [aA.out] at this; rw [List.head?_eq_getElem?]; exact this
         have bZ : (i : Int) + 1 < l.length := (by omega)
         have cM := Hi hx
         by_cases aI : x = 61
         · have bA : ((x.toNat : Int) == 61) = true := by rw [aI]; rfl
           have aQ : Hid (r.head? = some 61) := Hi (by rw [aR, aI]); clear aR aI hx; go_wp2_with fail; go_meet
           case rel => exact ⟨3, 2, 0, 0, by go_num, ⟨c, r, aA.out, HL.out.1, HL.out.2.1, by omega, .inl ⟨rfl, by rw [HL.out.2.2, if_pos aQ.out]⟩⟩, ((Below.refl _ _).alloc (lR _) _), heap_alloc_new _ _⟩
         · have bA : ((x.toNat : Int) == 61) = false := by
             have : x.toNat ≠ 61 := fun e => aI (Me e); simp; omega
           have aQ : Hid (¬ r.head? = some 61) := Hi (by rw [aR]; intro e; injection e with e; exact aI e); clear aR aI hx; go_wp2_with fail; go_meet
           case rel => exact ⟨3, 1, 0, 3, by go_num, ⟨c, r, aA.out, HL.out.1, HL.out.2.1, by omega, .inr ⟨by omega, by rw [HL.out.2.2, if_neg aQ.out]⟩⟩, ((Below.refl _ _).alloc (lR _) _), heap_alloc_new _ _⟩
       · have bZ : ¬ (i : Int) + 1 < l.length := by omega
         have aQ : Hid (¬ r.head? = some 61) := Hi (by
          have : r = [] := by have := aW.out; exact List.length_eq_zero_iff.1 (by omega)
          rw [this]; simp)
         go_wp2_with fail; go_meet
         case rel => exact ⟨3, 1, 0, 3, by go_num, ⟨c, r, aA.out, HL.out.1, HL.out.2.1, by omega, .inr ⟨by omega, by rw [HL.out.2.2, if_neg aQ.out]⟩⟩, ((Below.refl _ _).alloc (lR _) _), heap_alloc_new _ _⟩
    case rest =>
     obtain ⟨kind, k, n, err, rfl, bU, cI, aM⟩ := hcut; have dM : i + k <= l.length := by obtain ⟨_, _, -, -, -, h, -⟩ := bU; exact h
     obtain ⟨m, hm⟩ : ∃ m : Int, m = ((i + k : Nat) : Int) := ⟨_, rfl⟩
     rw [<- hm]; have dK : (i : Int) <= m := (by omega)
     have dF : m <= l.length := (by omega)
     have bW : (0 : Int) <= m := (by omega)
     have HM := Hi hm; have bR := Hi bU; have dB := Hi cI; have dU := Hi (aG.out.mid (Mid.of_below (cI.mono aG.out.le))); have cF := dU.out.text; have g1 := fOb (o := 1) aM; have d1 := cOb (o := 1) aM rfl; have dl := lHp aM; have bS := Hi aM; have aW := Hi aS; have bT := Hi bQ; clear hm bU cI aM aS bQ dM dO dQ; go_upto_region 38 with fail; have aH : m.toNat - i = k := by have := HM.out; omega
     rw [Wx, aH]
     have aB : (wc.setCell ⟨wA.heap.size, 1, none⟩ (vs ((l.drop i).take k))).heap[wA.heap.size]? = some (.cells #[.int .i64 kind, vs ((l.drop i).take k), .int .i64 n, .int .i64 i, .int .i64 err] 144 (0, 0)) := by
      rw [rSc bS.out]; rfl
     have aN : Below wA.heap.size wA (wc.setCell ⟨wA.heap.size, 1, none⟩ (vs ((l.drop i).take k))) := dB.out.setCell (lR _) _; clear aH d1 g1 cF bS dB
     revert aB aN
     generalize wc.setCell ⟨wA.heap.size, 1, none⟩ (vs ((l.drop i).take k)) = W2; intro aB aN; have cX := HJ.out _ _ _ _ bM.out (Yx aN) (fun r e => by cases e); obtain ⟨fn, tmps, assign, body, hy, hR⟩ := HY.out (Xr ts) (⟨kind, (l.drop i).take k, n, i⟩, err) W2 cX (by simp [Xr]; omega); simp only [encT] at hy; have e0 := cOb (o := 0) aB rfl; have e1 := cOb (o := 1) aB rfl; have e2 := cOb (o := 2) aB rfl; have e3 := cOb (o := 3) aB rfl; have e4 := cOb (o := 4) aB rfl; have cZ := lHp aB; have cN := Hi aB; have cO := Hi aN; clear aB aN cX; refine (wpIn_wide (n := 8)).1 ?_
     gi_wp2
     refine hR.mono ?_; clear hy hR; rintro e W3 (⟨rfl, cW, aX⟩ | ⟨rfl, bJ⟩)
     · have aU := aX.2 _ _ _ cN.out; have d0 := cOb (o := 0) aU rfl; have d4 := cOb (o := 4) aU rfl; have eL := lHp aU; have dA := Hi cW; have dZ := Hi aX; clear cW aX aU e0 e1 e2 e3 e4 cZ
       by_cases he : err = 0
       · have z0 : ((err : Int) != 0) = false := by simp; omega
         have HE := Hi he; clear he
         gi_wp2
         go_wp2_with fail; obtain ⟨bO, aT, aX⟩ := qa2 (by have := bR.out; rw [HE.out] at this; exact this) aZ.out
         have dS : J (Xr (ts ++ [⟨kind, (l.drop i).take k, n, i⟩])) W3 := by
          rw [<- Uy]; have := dA.out; rw [HE.out] at this; exact this
         refine ⟨⟨i + k, ts ++ [⟨kind, (l.drop i).take k, n, i⟩], aT, by simp; omega, by rw [HM.out], aX, dS, ?_⟩, by have := HM.out; simp [intOf]; omega⟩; exact HB.out.trans ((Mid.of_below (cO.out.mono aG.out.le)).trans dZ.out.1)
       · have z0 : ((err : Int) != 0) = true := by simp; omega
         have HE := Hi he; clear he
         gi_wp2
         go_wp2_with fail; rw [Exit.noGoto_ret]; refine bodyPost_ret (results_none rfl _ _ _) rfl ⟨⟨_, rfl⟩, .inl ⟨_, .inr ⟨ts, _, err, rfl, HE.out, Dn bR.out HE.out aZ.out⟩, dA.out⟩⟩
     · have eA := Hi bJ; clear bJ e0 e1 e2 e3 e4 cZ
       gi_wp2
       go_wp2_with fail; rw [Exit.noGoto_ret]; refine bodyPost_ret (results_none rfl _ _ _) rfl ⟨⟨_, rfl⟩, .inr ⟨_, ?_, eA.out⟩⟩
       by_cases he : err = 0
       · subst he; obtain ⟨bO, aT, aX⟩ := qa2 bR.out aZ.out; exact .inl ⟨_, _, _, Uy _ _, aX⟩
       · exact .inr ⟨ts, _, err, rfl, he, Dn bR.out he aZ.out⟩
  · have bX : ¬ (i : Int) < l.length := by omega
    go_wp2_with fail; go_end0; refine ⟨⟨_, rfl⟩, .inl ⟨_, .inl ⟨ts, rfl, ?_⟩, bM.out⟩⟩; rw [aZ.out, List.drop_of_length_le (by omega), Cf]; simp
