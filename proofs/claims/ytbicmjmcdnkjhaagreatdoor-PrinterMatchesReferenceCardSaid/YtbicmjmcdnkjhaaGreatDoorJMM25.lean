/- The classes of bytes. The class of the byte at an index. -/
import Derived.Test.YtbicmjmcdnkjhaaGreatDoorJMM1
import Derived.Test.YtbicmjmcdnkjhaaGreatDoorShelf
import Derived.Test.YtbicmjmcdnkjhaaGreatDoorJMM12
import Derived.Deep.MidRow
import Derived.Deep.WholeRow
set_option linter.unusedVariables false
set_option linter.unusedSimpArgs false
namespace Go
noncomputable def World.tbk (W : World) (b : Nat) : Option Obj := W.heap[b]?
end Go
set_option maxRecDepth 20000
set_option maxHeartbeats 4000000
namespace Go.Proofs.YtbicmjmcdnkjhaaGreatDoor
open Go.RowKit
def cls0 (k : Nat) : Nat := if 97 ≤ k ∧ k ≤ 122 then 3 else if 65 ≤ k ∧ k ≤ 90 then 3 else if 48 ≤ k ∧ k ≤ 57 then 4 else if k = 32 ∨ k = 9 ∨ k = 10 then 1 else if k = 59 ∨ k = 44 ∨ k = 46 ∨ k = 58 ∨ k = 40 ∨ k = 41 ∨ k = 91 ∨ k = 93 ∨ k = 123 ∨ k = 125 ∨ k = 61 then 6 else if k = 60 ∨ k = 62 then 7 else 0
def clsN (k : Nat) : Nat := if k = 35 then 2 else if k = 95 then 5 else if k = 33 then 8 else cls0 k
theorem byte_all {p : UInt8 → Prop} (h : ∀ k, k < 256 → p (UInt8.ofNat k)) (c : UInt8) : p c := by
 have := h c.toNat (UInt8.toNat_lt c)
 rwa [UInt8.ofNat_toNat] at this
def clsOk (k : Nat) : Bool :=
 let c := UInt8.ofNat k
 ((clsN k == 3) == letterB c) && ((clsN k == 4) == digitB c) && ((clsN k == 1) == blankB c) && ((clsN k == 6) == symB c) && ((clsN k == 7) == preB c) && ((clsN k == 2) == (c == 35)) && ((clsN k == 5) == (c == 95)) && ((clsN k == 8) == (c == 33)) && decide (clsN k ≤ 8) && (c.toNat == k) &&
 ((decide (0 ≤ Lib.indexByte [32, 9, 10] ((k : Int).toNat.toUInt8))) == (k == 32 || k == 9 || k == 10)) && ((decide (0 ≤ Lib.indexByte [59, 44, 46, 58, 40, 41, 91, 93, 123, 125, 61] ((k : Int).toNat.toUInt8))) == (k == 59 || k == 44 || k == 46 || k == 58 || k == 40 || k == 41 || k == 91 || k == 93 || k == 123 || k == 125 || k == 61))
theorem cls_ok : ∀ k, k < 256 → clsOk k = true := by
 have : (List.range 256).all clsOk = true := by decide +kernel
 intro k hk
 rw [List.all_eq_true] at this
 exact this k (List.mem_range.2 hk)
structure ClsFacts (c : UInt8) : Prop where
 letter : (clsN c.toNat == 3) = letterB c
 digit : (clsN c.toNat == 4) = digitB c
 blank : (clsN c.toNat == 1) = blankB c
 sym : (clsN c.toNat == 6) = symB c
 pre : (clsN c.toNat == 7) = preB c
 hash : (clsN c.toNat == 2) = (c == 35)
 under : (clsN c.toNat == 5) = (c == 95)
 bang : (clsN c.toNat == 8) = (c == 33)
 le : clsN c.toNat ≤ 8
theorem cls_facts (c : UInt8) : ClsFacts c := by
 refine byte_all (p := ClsFacts) (fun k hk => ?_) c
 have h := cls_ok k hk
 simp only [clsOk, Bool.and_eq_true, beq_iff_eq, decide_eq_true_eq] at h
 obtain ⟨⟨⟨⟨⟨⟨⟨⟨⟨⟨⟨h1, h2⟩, h3⟩, h4⟩, h5⟩, h6⟩, h7⟩, h8⟩, h9⟩, h10⟩, h11⟩, h12⟩ := h
 exact ⟨by rw [h10]; exact h1, by rw [h10]; exact h2, by rw [h10]; exact h3, by rw [h10]; exact h4, by rw [h10]; exact h5, by rw [h10]; exact h6, by rw [h10]; exact h7, by rw [h10]; exact h8, by rw [h10]; exact h9⟩
theorem ix_blank (k : Nat) (hk : k < 256) : decide (0 ≤ Lib.indexByte [32, 9, 10] ((k : Int).toNat.toUInt8)) = (k == 32 || k == 9 || k == 10) := by
 have h := cls_ok k hk
 simp only [clsOk, Bool.and_eq_true, beq_iff_eq, decide_eq_true_eq] at h
 exact h.1.2
theorem ix_sym (k : Nat) (hk : k < 256) : decide (0 ≤ Lib.indexByte [59, 44, 46, 58, 40, 41, 91, 93, 123, 125, 61] ((k : Int).toNat.toUInt8)) = (k == 59 || k == 44 || k == 46 || k == 58 || k == 40 || k == 41 || k == 91 || k == 93 || k == 123 || k == 125 || k == 61) := by
 have h := cls_ok k hk
 simp only [clsOk, Bool.and_eq_true, beq_iff_eq, decide_eq_true_eq] at h
 exact h.2
def loadTab (a : Addr) : Sem Value := loadVar 157 a
def storeTab (a : Addr) (v : Value) : Sem Unit := storeVar 157 a v
@[go_sem ↓ high] theorem loadVar_tab_fold (a : Addr) : loadVar 157 a = loadTab a := rfl
@[go_sem ↓ high] theorem storeVar_tab_fold (a : Addr) (v : Value) : storeVar 157 a v = storeTab a v := rfl
noncomputable def tabLoad (W : World) (b : Nat) (x : Option Obj) : Result Value :=
 match x with
 | some (.cells C _ _) => if C.size = 256 then .ok (.agg C) W else (loadTab ⟨b, 0, none⟩).run Tryz.prog W
 | _ => (loadTab ⟨b, 0, none⟩).run Tryz.prog W
@[go_sem] theorem loadTab_row (W : World) (b : Nat) : (loadTab ⟨b, 0, none⟩).run Tryz.prog W = tabLoad W b (W.tbk b) := by
 unfold tabLoad World.tbk
 split
 · rename_i C t' fr h
   split
   · rename_i hn
     have := run_loadVar_mid (P := Tryz.prog) W b 0 157 C.toList _ (fun j v hv => by rw [Nat.zero_add]; simp [World.cell?, h]; simpa using hv) Tryz.underlying157 rfl (by rw [Array.length_toList, hn]; kernel_rfl)
     rwa [Array.toArray_toList] at this
   · rfl
 · rfl
theorem tabLoad_cells (W : World) (b : Nat) (C : Array Value) (t : TypeId) (fr : Nat × Nat) (h : C.size = 256) : tabLoad W b (some (.cells C t fr)) = .ok (.agg C) W := if_pos h
open Classical in
noncomputable def tabStore (W : World) (b : Nat) (c : Array Value) (x : Option Obj) : Result Unit :=
 match x with
 | some (.cells C _ (0, 0)) => if C.size = 256 ∧ c.size = 256 ∧ c.all (·.oneCell') = true then .ok () (W.setRow b c) else (storeTab ⟨b, 0, none⟩ (.agg c)).run Tryz.prog W
 | _ => (storeTab ⟨b, 0, none⟩ (.agg c)).run Tryz.prog W
@[go_sem] theorem storeTab_row (W : World) (b : Nat) (c : Array Value) : (storeTab ⟨b, 0, none⟩ (.agg c)).run Tryz.prog W = tabStore W b c (W.tbk b) := by
 unfold tabStore World.tbk
 split
 · rename_i C t' h
   split
   · rename_i hn
     exact run_storeVar_row W b t' 157 C c h (by rw [hn.2.1]; kernel_rfl) (by omega) hn.2.2
   · rfl
 · rfl
theorem tabStore_cells (W : World) (b : Nat) (c C : Array Value) (t : TypeId) (h1 : C.size = 256) (h2 : c.size = 256) (h3 : c.all (·.oneCell') = true) : tabStore W b c (some (.cells C t (0, 0))) = .ok () (W.setRow b c) := if_pos ⟨h1, h2, h3⟩
theorem tab_one {C : Array Value} {f : Nat → Nat} (hs : C.size = 256) (h : ∀ k, k < 256 → C[k]? = some (.int .u8 (f k))) : C.all (·.oneCell') = true := by
 rw [Array.all_eq_true]
 intro i hi
 have := h i (by omega)
 rw [Array.getElem?_eq_getElem hi] at this
 injection this with this
 rw [this]; rfl
theorem zc : Tryz.zeroCells157 = Array.replicate 256 (.int .u8 0) := by kernel_rfl
def Tab (f : Nat → Nat) (w : World) (b : Nat) : Prop := ∃ C : Array Value, w.heap[b]? = some (.cells C 157 (0, 0)) ∧ C.size = 256 ∧ ∀ k, k < 256 → C[k]? = some (.int .u8 (f k))
theorem Tab.cell {f : Nat → Nat} {w : World} {b k : Nat} (h : Tab f w b) (hk : k < 256) : w.cell? ⟨b, k, none⟩ = some (.int .u8 (f k)) ∧ w.frozen? ⟨b, k, none⟩ = false := by
 obtain ⟨C, h1, -, h3⟩ := h
 exact ⟨cOb h1 (h3 k hk), fOb h1⟩
theorem Tab.lt {f : Nat → Nat} {w : World} {b : Nat} (h : Tab f w b) : b < w.heap.size := by obtain ⟨C, h1, -⟩ := h; exact lHp h1
theorem Tab.set {f g : Nat → Nat} {w : World} {b k v : Nat} (h : Tab f w b) (hg : ∀ j, j < 256 → g j = if j = k then v else f j) : Tab g (w.setCell ⟨b, k, none⟩ (.int .u8 v)) b := by
 obtain ⟨C, h1, h2, h3⟩ := h
 refine ⟨C.setIfInBounds k (.int .u8 v), ?_, by simpa using h2, fun j hj => ?_⟩
 · rw [rSc h1]
 · rw [Array.getElem?_setIfInBounds, hg j hj]
   by_cases hjk : j = k
   · subst hjk; simp; omega
   · rw [if_neg (fun e => hjk e.symm), if_neg hjk]; exact h3 j hj
theorem Tab.keep {f : Nat → Nat} {w w' : World} {b : Nat} (h : Tab f w b) (hb : w'.heap[b]? = w.heap[b]?) : Tab f w' b := by
 obtain ⟨C, h1, h2⟩ := h; exact ⟨C, hb.trans h1, h2⟩
theorem Tab.same {f g : Nat → Nat} {w : World} {b : Nat} (h : Tab f w b) (hg : ∀ j, j < 256 → g j = f j) : Tab g w b := by
 obtain ⟨C, h1, h2, h3⟩ := h; exact ⟨C, h1, h2, fun k hk => by rw [hg k hk]; exact h3 k hk⟩
def clsTo (k j : Nat) : Nat := if j < k then cls0 j else 0
theorem clsTo_set {k v : Nat} (hv : cls0 k = v) : ∀ j, j < 256 → clsTo (k + 1) j = if j = k then v else clsTo k j := by
 intro j _
 unfold clsTo
 by_cases h : j = k
 · subst h; rw [if_pos (by omega), if_pos rfl, hv]
 · rw [if_neg h]
   by_cases h2 : j < k
   · rw [if_pos (by omega), if_pos h2]
   · rw [if_neg (by omega), if_neg h2]
theorem clsTo_same {k : Nat} (hv : cls0 k = 0) : ∀ j, j < 256 → clsTo (k + 1) j = clsTo k j := by
 intro j hj
 rw [clsTo_set hv j hj]
 by_cases h : j = k
 · subst h; simp [clsTo]
 · rw [if_neg h]
theorem cls_cases (k : Nat) : (97 ≤ k ∧ k ≤ 122 ∧ cls0 k = 3) ∨ (65 ≤ k ∧ k ≤ 90 ∧ cls0 k = 3) ∨ (48 ≤ k ∧ k ≤ 57 ∧ cls0 k = 4) ∨ (¬ (97 ≤ k ∧ k ≤ 122) ∧ ¬ (65 ≤ k ∧ k ≤ 90) ∧ ¬ (48 ≤ k ∧ k ≤ 57)) := by
 unfold cls0
 split
 · exact .inl (by omega)
 · split
   · exact .inr (.inl (by omega))
   · split
     · exact .inr (.inr (.inl (by omega)))
     · exact .inr (.inr (.inr (by omega)))
structure ClsI (w wr : World) (k : Nat) : Prop where
 tab : Tab (clsTo k) wr (w.heap.size + 1)
 res : wr.heap[w.heap.size]? = some (.cells Tryz.zeroCells157 157 (0, 0))
 below : Below w.heap.size w wr
theorem ClsI.set {w wr : World} {k v : Nat} (h : ClsI w wr k) (hv : cls0 k = v) : ClsI w (wr.setCell ⟨w.heap.size + 1, k, none⟩ (.int .u8 v)) (k + 1) :=
 ⟨h.tab.set (clsTo_set hv), (Below.heap_setCell _ _ _ _ (by simp)).trans h.res, h.below.setCell (by simp) _⟩
theorem ClsI.none {w wr : World} {k : Nat} (h : ClsI w wr k) (hv : cls0 k = 0) : ClsI w wr (k + 1) := ⟨h.tab.same (clsTo_same hv), h.res, h.below⟩
theorem ClsI.start (w : World) : ClsI w ((w.alloc (.cells Tryz.zeroCells157 157)).alloc (.cells Tryz.zeroCells157 157)) 0 := by
 have h1 : ((w.alloc (.cells Tryz.zeroCells157 157)).alloc (.cells Tryz.zeroCells157 157)).heap[w.heap.size + 1]? = some (.cells Tryz.zeroCells157 157 (0, 0)) := by
  have := heap_alloc_new (w.alloc (.cells Tryz.zeroCells157 157)) (.cells Tryz.zeroCells157 157)
  rwa [show (w.alloc (.cells Tryz.zeroCells157 157)).heap.size = w.heap.size + 1 by simp] at this
 refine ⟨⟨_, h1, by rw [zc]; simp, fun k hk => by rw [zc]; simp [hk, clsTo]⟩, ?_, ((Below.refl _ _).alloc (lR _) _).alloc (by simp) _⟩
 exact (Below.heap_alloc _ _ _ (by simp)).trans (heap_alloc_new w _)
theorem cls_last {W : World} {b : Nat} (h : Tab (clsTo 256) W b) : Tab clsN (((W.setCell ⟨b, 35, none⟩ (.int .u8 2)).setCell ⟨b, 95, none⟩ (.int .u8 5)).setCell ⟨b, 33, none⟩ (.int .u8 8)) b := by
 refine Tab.set (v := 8) (f := fun j => if j = 95 then 5 else if j = 35 then 2 else clsTo 256 j) (Tab.set (v := 5) (f := fun j => if j = 35 then 2 else clsTo 256 j) (Tab.set (v := 2) h (fun j _ => rfl)) (fun j _ => rfl)) (fun j hj => ?_)
 unfold clsN clsTo
 rw [if_pos hj]
 by_cases h1 : j = 35
 · subst h1; rfl
 · by_cases h2 : j = 95
   · subst h2; rfl
   · by_cases h3 : j = 33
     · subst h3; rfl
     · simp [h1, h2, h3]
theorem below_setRow {b0 b : Nat} {w W : World} (h : Below b0 w W) (hb : b0 ≤ b) (C : Array Value) : Below b0 w (W.setRow b C) := by
 refine ⟨h.os, h.tape, h.output, by have := h.size; simpa [World.setRow] using this, fun k hk => ?_⟩
 rw [← h.block k hk]
 have : ¬ b = k := by omega
 simp [World.setRow, Array.getElem?_modify, this]
theorem classes_any (w : World) : Calls Tryz.prog 114 #[] w fun e w' => Below w.heap.size w w' ∧ ∃ C : Array Value, e = .returned (.agg C) ∧ C.size = 256 ∧ ∀ k, k < 256 → C[k]? = some (.int .u8 (clsN k)) := by
 go_enter Tryz.func114, Tryz.ntmps114
 go_wp2_with fail
 go_loopw [4] (fun v wr => ∃ k : Nat, k ≤ 256 ∧ v = .int .i64 k ∧ ClsI w wr k) (fun v _ => 256 - (intOf v).toNat)
 case atStart => exact ⟨0, by omega, rfl, ClsI.start w⟩
 case round =>
  obtain ⟨k, hk, rfl, hI⟩ := hrel
  have HI := Hi hI
  have hlt := hI.tab.lt
  by_cases hk2 : k = 256
  · subst hk2
    obtain ⟨C, hC, hs, hv⟩ := hI.tab
    have hres := hI.res
    have f1 := fOb (o := 35) hC
    have f2 := fOb (o := 95) hC
    have f3 := fOb (o := 33) hC
    have c1 := cOb hC (hv 35 (by omega))
    have c2 := cOb hC (hv 95 (by omega))
    have c3 := cOb hC (hv 33 (by omega))
    have HC := Hi hC
    have HS := Hi hs
    have HV := Hi hv
    have HR := Hi hres
    clear hI hC hs hv hres
    go_wp2_with fail
    have hT : Tab clsN (((wr.setCell ⟨w.heap.size + 1, 35, none⟩ (.int .u8 2)).setCell ⟨w.heap.size + 1, 95, none⟩ (.int .u8 5)).setCell ⟨w.heap.size + 1, 33, none⟩ (.int .u8 8)) (w.heap.size + 1) := cls_last HI.out.tab
    have hres' : (((wr.setCell ⟨w.heap.size + 1, 35, none⟩ (.int .u8 2)).setCell ⟨w.heap.size + 1, 95, none⟩ (.int .u8 5)).setCell ⟨w.heap.size + 1, 33, none⟩ (.int .u8 8)).tbk w.heap.size = some (.cells Tryz.zeroCells157 157 (0, 0)) :=
     (Below.heap_setCell _ _ _ _ (by simp)).trans ((Below.heap_setCell _ _ _ _ (by simp)).trans ((Below.heap_setCell _ _ _ _ (by simp)).trans HR.out))
    have hbel : Below w.heap.size w (((wr.setCell ⟨w.heap.size + 1, 35, none⟩ (.int .u8 2)).setCell ⟨w.heap.size + 1, 95, none⟩ (.int .u8 5)).setCell ⟨w.heap.size + 1, 33, none⟩ (.int .u8 8)) :=
     ((HI.out.below.setCell (by simp) _).setCell (by simp) _).setCell (by simp) _
    revert hT hres' hbel
    generalize (((wr.setCell ⟨w.heap.size + 1, 35, none⟩ (.int .u8 2)).setCell ⟨w.heap.size + 1, 95, none⟩ (.int .u8 5)).setCell ⟨w.heap.size + 1, 33, none⟩ (.int .u8 8)) = W3
    intro hT hres' hbel
    obtain ⟨D, hD, hDs, hDv⟩ := hT
    rw [show W3.tbk (w.heap.size + 1) = some (.cells D 157 (0, 0)) from hD, tabLoad_cells _ _ _ _ _ hDs]
    go_wp2_with fail
    rw [tabStore_cells _ _ _ _ _ (by rw [zc]; simp) hDs (tab_one hDs hDv)]
    go_wp2_with fail
    have hfin : (W3.setRow w.heap.size D).tbk w.heap.size = some (.cells D 157 (0, 0)) := by
     unfold World.tbk at *
     simp [World.setRow, Array.getElem?_modify, hres']
    refine bodyPost_ret (v := .agg D) (results_cell_row Tryz.results114 _ _ w.heap.size 157 D (0, 0) _ (by rfl) hfin Tryz.underlying157 rfl (by rw [hDs]; kernel_rfl)) rfl ⟨?_, D, rfl, hDs, hDv⟩
    exact below_setRow hbel (lR _) _
  · have hk3 : (k : Int) < 256 := by omega
    have hk4 : (0 : Int) ≤ k := by omega
    have hw : IntKind.u8.wrap (k : Int) = k := by simp [IntKind.wrap, IntKind.bits, IntKind.signed]; omega
    obtain ⟨c0, f0⟩ := hI.tab.cell (k := k) (by omega)
    rcases cls_cases k with ⟨h1, h2, h3⟩ | ⟨h1, h2, h3⟩ | ⟨h1, h2, h3⟩ | ⟨h1, h2, h3⟩
    · have H3 := Hi h3
      have y1 : (97 : Int) ≤ k := by omega
      have y2 : (k : Int) ≤ 122 := by omega
      clear h1 h2 h3 hI hk2
      go_wp2_with fail
      exact ⟨⟨k + 1, by omega, by go_num, HI.out.set H3.out⟩, by simp [intOf]; omega⟩
    · have H3 := Hi h3
      have y1 : ¬ (97 : Int) ≤ k := by omega
      have y2 : (65 : Int) ≤ k := by omega
      have y3 : (k : Int) ≤ 90 := by omega
      clear h1 h2 h3 hI hk2
      go_wp2_with fail
      exact ⟨⟨k + 1, by omega, by go_num, HI.out.set H3.out⟩, by simp [intOf]; omega⟩
    · have H3 := Hi h3
      have y1 : ¬ (97 : Int) ≤ k := by omega
      have y2 : ¬ (65 : Int) ≤ k := by omega
      have y3 : (48 : Int) ≤ k := by omega
      have y4 : (k : Int) ≤ 57 := by omega
      clear h1 h2 h3 hI hk2
      go_wp2_with fail
      exact ⟨⟨k + 1, by omega, by go_num, HI.out.set H3.out⟩, by simp [intOf]; omega⟩
    · have HX1 := Hi (ix_blank k (by omega))
      have HX2 := Hi (ix_sym k (by omega))
      have HC : cls0 k = if k = 32 ∨ k = 9 ∨ k = 10 then 1 else if k = 59 ∨ k = 44 ∨ k = 46 ∨ k = 58 ∨ k = 40 ∨ k = 41 ∨ k = 91 ∨ k = 93 ∨ k = 123 ∨ k = 125 ∨ k = 61 then 6 else if k = 60 ∨ k = 62 then 7 else 0 := by
       unfold cls0; rw [if_neg h1, if_neg h2, if_neg h3]
      have H3 := Hi HC
      have HR : k < 48 ∨ (58 ≤ k ∧ k < 65) ∨ (91 ≤ k ∧ k < 97) ∨ 123 ≤ k := by omega
      have y1 : (97 : Int) ≤ k ∨ ¬ (97 : Int) ≤ k := by omega
      have y2 : (k : Int) ≤ 122 ∨ ¬ (k : Int) ≤ 122 := by omega
      have y3 : (65 : Int) ≤ k ∨ ¬ (65 : Int) ≤ k := by omega
      have y4 : (k : Int) ≤ 90 ∨ ¬ (k : Int) ≤ 90 := by omega
      have y5 : (48 : Int) ≤ k ∨ ¬ (48 : Int) ≤ k := by omega
      have y6 : (k : Int) ≤ 57 ∨ ¬ (k : Int) ≤ 57 := by omega
      clear HC
      rcases y1 with y1 | y1 <;> rcases y2 with y2 | y2 <;> rcases y3 with y3 | y3 <;> rcases y4 with y4 | y4 <;> rcases y5 with y5 | y5 <;> rcases y6 with y6 | y6 <;> try (exfalso; omega)
      all_goals
       clear HR h1 h2 h3 hI hk2
       go_wp2_with fail
       refine (Tryz.strings_IndexByte _ _ _).mono ?_
       rintro e w1 ⟨rfl, rfl⟩
       have hx := HX1.out
       revert hx
       have hgo : ({ data := #[32, 9, 10] } : ByteArray).data.toList = [32, 9, 10] := rfl
       rw [hgo]
       generalize Lib.indexByte [32, 9, 10] ((k : Int).toNat.toUInt8) = z
       intro hx
       cases hb : (k == 32 || k == 9 || k == 10) with
       | true =>
         have hz : (0 : Int) ≤ z := by rw [hb] at hx; simpa using hx
         have HB := Hi hb
         clear hx hb
         go_wp2_with fail
         exact ⟨⟨k + 1, by omega, by go_num, HI.out.set (by rw [H3.out, if_pos (by have := HB.out; simp at this; omega)])⟩, by simp [intOf]; omega⟩
       | false =>
         have hz : ¬ (0 : Int) ≤ z := by rw [hb] at hx; simpa using hx
         have HB := Hi hb
         clear hx hb
         go_wp2_with fail
         refine (Tryz.strings_IndexByte _ _ _).mono ?_
         rintro e w1 ⟨rfl, rfl⟩
         have hx := HX2.out
         revert hx
         have hgo : ({ data := #[59, 44, 46, 58, 40, 41, 91, 93, 123, 125, 61] } : ByteArray).data.toList = [59, 44, 46, 58, 40, 41, 91, 93, 123, 125, 61] := rfl
         rw [hgo]
         generalize Lib.indexByte [59, 44, 46, 58, 40, 41, 91, 93, 123, 125, 61] ((k : Int).toNat.toUInt8) = z2
         intro hx
         cases hs : (k == 59 || k == 44 || k == 46 || k == 58 || k == 40 || k == 41 || k == 91 || k == 93 || k == 123 || k == 125 || k == 61) with
         | true =>
           have hz2 : (0 : Int) ≤ z2 := by rw [hs] at hx; simpa using hx
           have HS := Hi hs
           clear hx hs
           go_wp2_with fail
           exact ⟨⟨k + 1, by omega, by go_num, HI.out.set (by rw [H3.out, if_neg (by have := HB.out; simp at this; omega), if_pos (by have := HS.out; simp at this; omega)])⟩, by simp [intOf]; omega⟩
         | false =>
           have hz2 : ¬ (0 : Int) ≤ z2 := by rw [hs] at hx; simpa using hx
           have HS := Hi hs
           clear hx hs
           have hq : ((k : Int) == 60) = (k == 60) := by rw [Bool.eq_iff_iff]; simp; omega
           have hq2 : ((k : Int) == 62) = (k == 62) := by rw [Bool.eq_iff_iff]; simp; omega
           cases h60 : (k == 60) with
           | true =>
             rw [h60] at hq
             have H60 := Hi h60
             clear h60
             go_wp2_with fail
             exact ⟨⟨k + 1, by omega, by go_num, HI.out.set (by rw [H3.out, if_neg (by have := HB.out; simp at this; omega), if_neg (by have := HS.out; simp at this; omega), if_pos (by have := H60.out; simp at this; omega)])⟩, by simp [intOf]; omega⟩
           | false =>
             rw [h60] at hq
             have H60 := Hi h60
             clear h60
             cases h62 : (k == 62) with
             | true =>
               rw [h62] at hq2
               have H62 := Hi h62
               clear h62
               go_wp2_with fail
               exact ⟨⟨k + 1, by omega, by go_num, HI.out.set (by rw [H3.out, if_neg (by have := HB.out; simp at this; omega), if_neg (by have := HS.out; simp at this; omega), if_pos (by have := H62.out; simp at this; omega)])⟩, by simp [intOf]; omega⟩
             | false =>
               rw [h62] at hq2
               have H62 := Hi h62
               clear h62
               go_wp2_with fail
               exact ⟨⟨k + 1, by omega, by go_num, HI.out.none (by rw [H3.out, if_neg (by have := HB.out; simp at this; omega), if_neg (by have := HS.out; simp at this; omega), if_neg (by have := H60.out; have := H62.out; simp at *; omega)])⟩, by simp [intOf]; omega⟩
end Go.Proofs.YtbicmjmcdnkjhaaGreatDoor
set_option maxRecDepth 20000
set_option maxHeartbeats 1000000
namespace Go.Proofs.YtbicmjmcdnkjhaaGreatDoor
open Go.RowKit
def clsAt (l : List UInt8) (i : Nat) : Nat := match l[i]? with | none => 0 | some c => clsN c.toNat
theorem byte_at {l : List UInt8} {i : Nat} {c : UInt8} (h : l[i]? = some c) : ∀ hh, (({ data := l.toArray } : ByteArray)[i]'hh) = c := by
 intro hh
 obtain ⟨h1, h2⟩ := List.getElem?_eq_some_iff.1 h
 exact h2
theorem at_any (l : List UInt8) (bt bc : Nat) (w : World) (ht : w.cell? ⟨bt, 0, none⟩ = some (vs l)) (hc : Tab clsN w bc) (i : Nat) (hl : l.length ≤ 1000000) :
 Calls Tryz.prog 115 #[.int .i64 i, .pointer (some ⟨bt, 0, none⟩), .pointer (some ⟨bc, 0, none⟩)] w fun e w' => e = .returned (.int .u8 (clsAt l i)) ∧ w' = w := by
 have HC := Hi hc
 have hlt := hc.lt
 clear hc
 by_cases hi : i < l.length
 · obtain ⟨c, hx⟩ := gLt hi
   have hcl : clsAt l i = clsN c.toNat := by simp [clsAt, hx]
   have h1 : (i : Int) < l.length := by omega
   have h2 : c.toNat < 256 := UInt8.toNat_lt c
   obtain ⟨c0, -⟩ := HC.out.cell h2
   have h3 : (c.toNat : Int) < 256 := by omega
   have h4 : (0 : Int) ≤ i := by omega
   have h5 : (0 : Int) ≤ c.toNat := by omega
   have hb := byte_at hx
   rw [hcl]
   clear hx hi
   go_enter Tryz.func115, Tryz.ntmps115
   go_wp2_with fail
   go_ret
   exact ⟨rfl, rfl⟩
 · have hcl : clsAt l i = 0 := by simp [clsAt]; rw [List.getElem?_eq_none (by omega)]
   have h1 : ¬ (i : Int) < l.length := by omega
   rw [hcl]
   go_enter Tryz.func115, Tryz.ntmps115
   go_wp2_with fail
   go_ret
   exact ⟨rfl, rfl⟩
end Go.Proofs.YtbicmjmcdnkjhaaGreatDoor
