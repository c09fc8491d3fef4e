/- What is left of a count is no less than 0 while all is as required: plain words. A box of one number; the search through kids. The writer's number; a word and a number; something in brackets; the boxes of a call that writes. How many words a condition has; words put together kid by kid: plain words. -/
import Derived.Test.YtbicmjmcdnkjhaaGreatDoorJMM1
import Derived.Test.YtbicmjmcdnkjhaaGreatDoorJMM4
import Derived.Test.YtbicmjmcdnkjhaaGreatDoorJMM6
import Derived.Laws.EntriesVeiled
import Derived.Test.YtbicmjmcdnkjhaaGreatDoorJMM7
import Derived.Lib.ItoaMem
set_option linter.unusedVariables false
set_option linter.unusedSimpArgs false
set_option maxRecDepth 20000
set_option maxHeartbeats 1000000
namespace Go.Proofs.YtbicmjmcdnkjhaaGreatDoor
open Go.RowKit
mutual
theorem formI_left : ∀ (t : TreeI) (l d : Int), (formI t l d).1 = true → 0 ≤ (formI t l d).2 ∧ (formI t l d).2 ≤ l
 | .mk op name cmp n ks, l, d, h => by
   rw [formI] at h ⊢
   by_cases h0 : l - 1 < 0 ∨ d = 0 ∨ refF op name cmp n = true
   · rw [if_pos h0] at h; cases h
   · rw [if_neg h0] at h ⊢
     have hl : 0 ≤ l - 1 := by omega
     split at h
     · rename_i h1; rw [if_pos h1]; exact ⟨hl, by show l - 1 ≤ l; omega⟩
     · rename_i h1
       rw [if_neg h1]
       split at h
       · rename_i h2
         rw [if_pos h2]
         have := formsI_left ks (l - 1) (d - 1) hl h
         omega
       · cases h
theorem formsI_left : ∀ (ks : List TreeI) (l d : Int), 0 ≤ l → (formsI ks l d).1 = true → 0 ≤ (formsI ks l d).2 ∧ (formsI ks l d).2 ≤ l
 | [], l, d, hl, h => by rw [formsI]; exact ⟨hl, Int.le_refl _⟩
 | k :: r, l, d, hl, h => by
   rw [formsI] at h ⊢
   by_cases hk : (formI k l d).1 = true
   · rw [if_pos hk] at h ⊢
     have h1 := formI_left k l d hk
     have h2 := formsI_left r _ d h1.1 h
     omega
   · rw [if_neg hk] at h; cases h
end
mutual
theorem startI_left : ∀ (t : TreeI) (l d : Int), (startI t l d).1 = true → 0 ≤ (startI t l d).2 ∧ (startI t l d).2 ≤ l
 | .mk op name cmp n ks, l, d, h => by
   rw [startI] at h ⊢
   by_cases h0 : l - 1 < 0 ∨ d = 0 ∨ refS op name n = true
   · rw [if_pos h0] at h; cases h
   · rw [if_neg h0] at h ⊢
     have hl : 0 ≤ l - 1 := by omega
     split at h
     · rename_i h1
       rw [if_pos h1]
       split at h
       · rename_i h2
         rw [if_pos h2]
         have := startsI_left ks (l - 1) (d - 1) hl h
         omega
       · cases h
     · rename_i h1
       rw [if_neg h1]
       split at h
       · rename_i h2
         rw [if_pos h2]
         exact ⟨hl, by show l - 1 ≤ l; omega⟩
       · cases h
theorem startsI_left : ∀ (ks : List TreeI) (l d : Int), 0 ≤ l → (startsI ks l d).1 = true → 0 ≤ (startsI ks l d).2 ∧ (startsI ks l d).2 ≤ l
 | [], l, d, hl, h => by rw [startsI]; exact ⟨hl, Int.le_refl _⟩
 | k :: r, l, d, hl, h => by
   rw [startsI] at h ⊢
   by_cases hk : (startI k l d).1 = true
   · rw [if_pos hk] at h ⊢
     have h1 := startI_left k l d hk
     have h2 := startsI_left r _ d h1.1 h
     omega
   · rw [if_neg hk] at h; cases h
end
/- a box of one number -/
def IntB (w : World) (b : Nat) (n : Int) : Prop := ∃ T, w.heap[b]? = some (.cells #[.int .i64 n] T (0, 0))
theorem IntB.lt {w : World} {b : Nat} {n : Int} (h : IntB w b n) : b < w.heap.size := by obtain ⟨T, h⟩ := h; exact lHp h
theorem IntB.keep {w w' : World} {b : Nat} {n : Int} (h : IntB w b n) (hk : w'.heap[b]? = w.heap[b]?) : IntB w' b n := by obtain ⟨T, h⟩ := h; exact ⟨T, hk.trans h⟩
theorem IntB.cell {w : World} {b : Nat} {n : Int} (h : IntB w b n) : w.cell? ⟨b, 0, none⟩ = some (.int .i64 n) ∧ w.frozen? ⟨b, 0, none⟩ = false := by obtain ⟨T, h⟩ := h; exact ⟨cOb h rfl, fOb h⟩
theorem IntB.set {w : World} {b : Nat} {n : Int} (h : IntB w b n) (m : Int) : IntB (w.setCell ⟨b, 0, none⟩ (.int .i64 m)) b m := by
 obtain ⟨T, h⟩ := h
 exact ⟨T, by simp [World.setCell, Array.getElem?_modify, h]⟩
theorem Eff.below {p B : Nat} {w w' : World} (h : Eff p w w') (hp : B ≤ p) (hs : B ≤ w.heap.size) : Below B w w' := ⟨h.os, h.tape, h.output, h.size, fun k hk => h.block k (by omega) (by omega)⟩
theorem enters {P : Program} {f : FuncId} {fn : Func} {c : Code} (hf : P.funcs[f]? = some fn) (hname : (fn.name == "runtime.NumGoroutine") = false) (hb : fn.body = some c) (us : Array Value) (w : World) :
 (callFunc f us).run P w = .ok (.enter f us) w := by
 have hname' : ¬ fn.name = "runtime.NumGoroutine" := by simpa using hname
 simp [callFunc, hf, hname', hb]
def FormPost (w : World) (lb : Nat) (r : Bool × Int) (e : Ending) (w' : World) : Prop := e = .returned (.bool r.1) ∧ IntB w' lb r.2 ∧ Eff lb w w'
/- a search that goes on while the answer is no: R: what holds ahead of the k-th one; E: what holds behind a yes -/
def StepR (R : Nat → World → Prop) (E : World → Prop) (k : Nat) (e : Ending) (w' : World) : Prop := (e = .returned (.bool false) ∧ R (k + 1) w') ∨ (e = .returned (.bool true) ∧ E w')
def IxR (R : Nat → World → Prop) (E : World → Prop) (n : Nat) (e : Ending) (w' : World) : Prop := (e = .returned (.int .i64 (-1)) ∧ R n w') ∨ ∃ i : Nat, e = .returned (.int .i64 (i : Int)) ∧ E w'
def CoR (R : Nat → World → Prop) (E : World → Prop) (n : Nat) (e : Ending) (w' : World) : Prop := (e = .returned (.bool false) ∧ R n w') ∨ (e = .returned (.bool true) ∧ E w')
def GoesX_f (W0 : World) (R : Nat → World → Prop) (E : World → Prop) (g : FuncId) (caps : Array Value) (ks : List TreeI) : Prop := ∀ (k : Nat) (o1 : Int) (n1 : List UInt8) (d1 m1 : Int) (ks1 : List TreeI) (A1 : Option Addr) (p1 : Nat) (wr : World), ks[k]? = some (.mk o1 n1 d1 m1 ks1) →
 RdX true W0 [.int .i64 o1, vs n1, .int .i64 d1, .int .i64 m1, .slice A1 ks1.length p1] (.mk o1 n1 d1 m1 ks1) → R k wr → Calls Tryz.prog g (#[.agg #[.int .i64 o1, vs n1, .int .i64 d1, .int .i64 m1, .slice A1 ks1.length p1]] ++ caps) wr (StepR R E k)
theorem ix_f (W0 : World) (ks : List TreeI) (A : Option Addr) (c : Nat) (g : FuncId) (caps : Array Value) (w : World) (R : Nat → World → Prop) (E : World → Prop)
 (hkids : ks = [] ∨ ∃ b o, A = some ⟨b, o, none⟩ ∧ b < W0.heap.size ∧ RdXs true W0 b o ks) (hl : ks.length ≤ 1000000) (hcf : ∀ us W, (callFunc g us).run Tryz.prog W = .ok (.enter g us) W)
 (hB : ∀ k wr, R k wr → Below W0.heap.size W0 wr) (hg : GoesX_f W0 R E g caps ks) (h0 : R 0 w) :
 Calls Tryz.prog 147 #[.slice A ks.length c, .func (.func g) #[] caps] w (IxR R E ks.length) := by
 have HG := Hi hg
 have HK := Hi hkids
 have HBB := Hi hB
 have H0 := Hi h0
 clear hg hkids hB h0
 go_enter Tryz.func147, Tryz.ntmps147
 go_wp2_with fail
 go_loopw [8] (fun i wr => ∃ k : Nat, k ≤ ks.length ∧ i = .int .i64 k ∧ R k wr) (fun i _ => ks.length - (intOf i).toNat)
 case atStart => exact ⟨0, Nat.zero_le _, rfl, H0.out⟩
 case round =>
  obtain ⟨k, hk, rfl, hr⟩ := hrel
  have HR := Hi hr
  have HB := Hi (HBB.out k wr hr)
  clear hr
  by_cases hlt : k < ks.length
  · obtain ⟨x, hx⟩ := gLt hlt
    have HX := Hi hx
    have hne : ks ≠ [] := by rintro rfl; simp at hlt
    obtain ⟨b, o, rfl, hbl, hkd⟩ := HK.out.resolve_left hne
    obtain ⟨cs, hc, hrx⟩ := hkd.get hx
    have HRX := Hi hrx
    obtain ⟨o1, n1, d1, m1, ks1⟩ := x
    obtain ⟨A1, p1, rfl, -, -⟩ := hrx
    have z0 : wr.cell? ⟨b, o + k * 5, none⟩ = some (.int .i64 o1) := (HB.out.cell (p := ⟨b, o + k * 5, none⟩) hbl).trans (hc 0 _ rfl)
    have z1 : wr.cell? ⟨b, o + k * 5 + 1, none⟩ = some (vs n1) := (HB.out.cell (p := ⟨b, o + k * 5 + 1, none⟩) hbl).trans (hc 1 _ rfl)
    have z2 : wr.cell? ⟨b, o + k * 5 + 2, none⟩ = some (.int .i64 d1) := (HB.out.cell (p := ⟨b, o + k * 5 + 2, none⟩) hbl).trans (hc 2 _ rfl)
    have z3 : wr.cell? ⟨b, o + k * 5 + 3, none⟩ = some (.int .i64 m1) := (HB.out.cell (p := ⟨b, o + k * 5 + 3, none⟩) hbl).trans (hc 3 _ rfl)
    have z4 : wr.cell? ⟨b, o + k * 5 + 4, none⟩ = some (.slice A1 ks1.length p1) := (HB.out.cell (p := ⟨b, o + k * 5 + 4, none⟩) hbl).trans (hc 4 _ rfl)
    have hk1 : (k : Int) < ks.length := by omega
    have hk0 : (0 : Int) ≤ k := by omega
    have hbl' : b < wr.heap.size := by have := HB.out.size; omega
    have HC : Hid (Calls Tryz.prog g (#[.agg #[.int .i64 o1, vs n1, .int .i64 d1, .int .i64 m1, .slice A1 ks1.length p1]] ++ caps) wr (StepR R E k)) := Hi (HG.out k o1 n1 d1 m1 ks1 A1 p1 wr HX.out HRX.out HR.out)
    clear hc hkd hx hne
    go_wp2_with fail
    refine HC.out.mono ?_
    rintro e w1 (⟨rfl, h1⟩ | ⟨rfl, h1⟩)
    · have H1 := Hi h1
      clear h1
      go_wp2_with fail
      exact ⟨⟨k + 1, by omega, by go_num, H1.out⟩, by simp [intOf]; omega⟩
    · have H1 := Hi h1
      clear h1
      go_wp2_with fail
      go_ret
      exact Or.inr ⟨k, rfl, H1.out⟩
  · have hk' : k = ks.length := by omega
    subst hk'
    have hlt2 : ¬ ((ks.length : Nat) : Int) < ks.length := by omega
    go_wp2_with fail
    go_ret
    exact Or.inl ⟨rfl, HR.out⟩
theorem co_f (W0 : World) (ks : List TreeI) (A : Option Addr) (c : Nat) (g : FuncId) (caps : Array Value) (w : World) (R : Nat → World → Prop) (E : World → Prop)
 (hkids : ks = [] ∨ ∃ b o, A = some ⟨b, o, none⟩ ∧ b < W0.heap.size ∧ RdXs true W0 b o ks) (hl : ks.length ≤ 1000000) (hcf : ∀ us W, (callFunc g us).run Tryz.prog W = .ok (.enter g us) W)
 (hB : ∀ k wr, R k wr → Below W0.heap.size W0 wr) (hg : GoesX_f W0 R E g caps ks) (h0 : R 0 w) :
 Calls Tryz.prog 97 #[.slice A ks.length c, .func (.func g) #[] caps] w (CoR R E ks.length) := by
 have HI : Hid (Calls Tryz.prog 147 #[.slice A ks.length c, .func (.func g) #[] caps] w (IxR R E ks.length)) := Hi (ix_f W0 ks A c g caps w R E hkids hl hcf hB hg h0)
 clear hkids hcf hB hg h0
 go_enter Tryz.func97, Tryz.ntmps97
 go_wp2_with fail
 refine HI.out.mono ?_
 rintro e w1 (⟨rfl, h1⟩ | ⟨i, rfl, h1⟩)
 · have H1 := Hi h1
   clear h1
   go_wp2_with fail
   go_ret
   exact Or.inl ⟨rfl, H1.out⟩
 · have H1 := Hi h1
   have hi : (0 : Int) ≤ i := by omega
   clear h1
   go_wp2_with fail
   go_ret
   exact Or.inr ⟨rfl, H1.out⟩
def GoesX_s (W0 : World) (R : Nat → World → Prop) (E : World → Prop) (g : FuncId) (caps : Array Value) (ks : List TreeI) : Prop := ∀ (k : Nat) (o1 : Int) (n1 : List UInt8) (d1 m1 : Int) (ks1 : List TreeI) (A1 : Option Addr) (p1 : Nat) (wr : World), ks[k]? = some (.mk o1 n1 d1 m1 ks1) →
 RdX false W0 [.int .i64 o1, vs n1, .int .i64 m1, .slice A1 ks1.length p1] (.mk o1 n1 d1 m1 ks1) → R k wr → Calls Tryz.prog g (#[.agg #[.int .i64 o1, vs n1, .int .i64 m1, .slice A1 ks1.length p1]] ++ caps) wr (StepR R E k)
theorem ix_s (W0 : World) (ks : List TreeI) (A : Option Addr) (c : Nat) (g : FuncId) (caps : Array Value) (w : World) (R : Nat → World → Prop) (E : World → Prop)
 (hkids : ks = [] ∨ ∃ b o, A = some ⟨b, o, none⟩ ∧ b < W0.heap.size ∧ RdXs false W0 b o ks) (hl : ks.length ≤ 1000000) (hcf : ∀ us W, (callFunc g us).run Tryz.prog W = .ok (.enter g us) W)
 (hB : ∀ k wr, R k wr → Below W0.heap.size W0 wr) (hg : GoesX_s W0 R E g caps ks) (h0 : R 0 w) :
 Calls Tryz.prog 148 #[.slice A ks.length c, .func (.func g) #[] caps] w (IxR R E ks.length) := by
 have HG := Hi hg
 have HK := Hi hkids
 have HBB := Hi hB
 have H0 := Hi h0
 clear hg hkids hB h0
 go_enter Tryz.func148, Tryz.ntmps148
 go_wp2_with fail
 go_loopw [8] (fun i wr => ∃ k : Nat, k ≤ ks.length ∧ i = .int .i64 k ∧ R k wr) (fun i _ => ks.length - (intOf i).toNat)
 case atStart => exact ⟨0, Nat.zero_le _, rfl, H0.out⟩
 case round =>
  obtain ⟨k, hk, rfl, hr⟩ := hrel
  have HR := Hi hr
  have HB := Hi (HBB.out k wr hr)
  clear hr
  by_cases hlt : k < ks.length
  · obtain ⟨x, hx⟩ := gLt hlt
    have HX := Hi hx
    have hne : ks ≠ [] := by rintro rfl; simp at hlt
    obtain ⟨b, o, rfl, hbl, hkd⟩ := HK.out.resolve_left hne
    obtain ⟨cs, hc, hrx⟩ := hkd.get hx
    have HRX := Hi hrx
    obtain ⟨o1, n1, d1, m1, ks1⟩ := x
    obtain ⟨A1, p1, rfl, -, -⟩ := hrx
    have z0 : wr.cell? ⟨b, o + k * 4, none⟩ = some (.int .i64 o1) := (HB.out.cell (p := ⟨b, o + k * 4, none⟩) hbl).trans (hc 0 _ rfl)
    have z1 : wr.cell? ⟨b, o + k * 4 + 1, none⟩ = some (vs n1) := (HB.out.cell (p := ⟨b, o + k * 4 + 1, none⟩) hbl).trans (hc 1 _ rfl)
    have z2 : wr.cell? ⟨b, o + k * 4 + 2, none⟩ = some (.int .i64 m1) := (HB.out.cell (p := ⟨b, o + k * 4 + 2, none⟩) hbl).trans (hc 2 _ rfl)
    have z3 : wr.cell? ⟨b, o + k * 4 + 3, none⟩ = some (.slice A1 ks1.length p1) := (HB.out.cell (p := ⟨b, o + k * 4 + 3, none⟩) hbl).trans (hc 3 _ rfl)
    have hk1 : (k : Int) < ks.length := by omega
    have hk0 : (0 : Int) ≤ k := by omega
    have hbl' : b < wr.heap.size := by have := HB.out.size; omega
    have HC : Hid (Calls Tryz.prog g (#[.agg #[.int .i64 o1, vs n1, .int .i64 m1, .slice A1 ks1.length p1]] ++ caps) wr (StepR R E k)) := Hi (HG.out k o1 n1 d1 m1 ks1 A1 p1 wr HX.out HRX.out HR.out)
    clear hc hkd hx hne
    go_wp2_with fail
    refine HC.out.mono ?_
    rintro e w1 (⟨rfl, h1⟩ | ⟨rfl, h1⟩)
    · have H1 := Hi h1
      clear h1
      go_wp2_with fail
      exact ⟨⟨k + 1, by omega, by go_num, H1.out⟩, by simp [intOf]; omega⟩
    · have H1 := Hi h1
      clear h1
      go_wp2_with fail
      go_ret
      exact Or.inr ⟨k, rfl, H1.out⟩
  · have hk' : k = ks.length := by omega
    subst hk'
    have hlt2 : ¬ ((ks.length : Nat) : Int) < ks.length := by omega
    go_wp2_with fail
    go_ret
    exact Or.inl ⟨rfl, HR.out⟩
theorem co_s (W0 : World) (ks : List TreeI) (A : Option Addr) (c : Nat) (g : FuncId) (caps : Array Value) (w : World) (R : Nat → World → Prop) (E : World → Prop)
 (hkids : ks = [] ∨ ∃ b o, A = some ⟨b, o, none⟩ ∧ b < W0.heap.size ∧ RdXs false W0 b o ks) (hl : ks.length ≤ 1000000) (hcf : ∀ us W, (callFunc g us).run Tryz.prog W = .ok (.enter g us) W)
 (hB : ∀ k wr, R k wr → Below W0.heap.size W0 wr) (hg : GoesX_s W0 R E g caps ks) (h0 : R 0 w) :
 Calls Tryz.prog 99 #[.slice A ks.length c, .func (.func g) #[] caps] w (CoR R E ks.length) := by
 have HI : Hid (Calls Tryz.prog 148 #[.slice A ks.length c, .func (.func g) #[] caps] w (IxR R E ks.length)) := Hi (ix_s W0 ks A c g caps w R E hkids hl hcf hB hg h0)
 clear hkids hcf hB hg h0
 go_enter Tryz.func99, Tryz.ntmps99
 go_wp2_with fail
 refine HI.out.mono ?_
 rintro e w1 (⟨rfl, h1⟩ | ⟨i, rfl, h1⟩)
 · have H1 := Hi h1
   clear h1
   go_wp2_with fail
   go_ret
   exact Or.inl ⟨rfl, H1.out⟩
 · have H1 := Hi h1
   have hi : (0 : Int) ≤ i := by omega
   clear h1
   go_wp2_with fail
   go_ret
   exact Or.inr ⟨rfl, H1.out⟩
end Go.Proofs.YtbicmjmcdnkjhaaGreatDoor
set_option maxRecDepth 20000
set_option maxHeartbeats 1000000
namespace Go.Proofs.YtbicmjmcdnkjhaaGreatDoor
open Go.RowKit
theorem below_grew (w : World) (k : Nat) (os : Array Obj) : Below w.heap.size w (Go.Sort.grow (w.drewN k) os) :=
 ⟨rfl, rfl, rfl, by simp [Go.Sort.grow], fun i hi => by simp [Go.Sort.grow, Array.getElem?_append_left hi]⟩
theorem itoa_nat (W w : World) (n : Nat) (hn : n ≤ 10000000) (ht : Tabs W) (hb : Below W.heap.size W w) : Calls Tryz.prog 62 #[.int .i64 (n : Int)] w fun e w' => e = .returned (vs (dec n)) ∧ Below w.heap.size w w' := by
 refine (Tryz.strconv_Itoa n (by omega) (by omega) w (ht.pw w hb)).mono ?_
 rintro e w' ⟨rfl, k, os, rfl⟩
 rw [Lib.itoa_nonneg]
 exact ⟨rfl, below_grew w k os⟩
theorem number_w (W w : World) (p : Nat) (T : TypeId) (S : Nat → Prop) (L N : List (List UInt8)) (n : Nat) (h : Wr W w p T S L N) (hn : n ≤ 10000000) (hlen : L.length + 1 ≤ 1000000) (ht : Tabs W) :
 Calls Tryz.prog 29 #[.pointer (some ⟨p, 0, none⟩), .int .i64 (n : Int)] w (WrPost W w p T S (L ++ [dec n]) N) := by
 have HI := Hi (itoa_nat W w n hn ht h.below)
 have H := Hi h
 clear h ht
 go_enter Tryz.func29, Tryz.ntmps29
 go_wp2_with fail
 refine HI.out.mono ?_
 rintro e w1 ⟨rfl, hb1⟩
 have HB1 := Hi hb1
 have H1 := Hi ((H.out.keep hb1).alloc (.cells #[vs (dec n)] 9))
 clear hb1
 go_wp2_with fail
 refine (add_any W _ p T S L N [dec n] _ 1 H1.out cells_one (by simpa using hlen)).mono ?_
 rintro e w3 ⟨rfl, S', hw, hf⟩
 have HW := Hi hw
 have HF := Hi hf
 clear hw hf
 go_wp2_with fail
 go_end0
 exact ⟨rfl, S', HW.out, ((WrFr.of_below S HB1.out).alloc _).trans HF.out⟩
/- one word -/
theorem word_w (W w : World) (p : Nat) (T : TypeId) (S : Nat → Prop) (L N : List (List UInt8)) (s : List UInt8) (g : Nat) (hg : g = w.heap.size) (h : Wr W w p T S L N) (hlen : L.length + 1 ≤ 1000000) :
 Calls Tryz.prog 27 #[.pointer (some ⟨p, 0, none⟩), .slice (some ⟨g, 0, none⟩) 1 1] (w.alloc (.cells #[vs s] 9)) (WrPost W w p T S (L ++ [s]) N) := by
 subst hg
 refine (add_any W _ p T S L N [s] _ 1 (h.alloc _) cells_one (by simpa using hlen)).mono ?_
 rintro e w3 ⟨rfl, S', hw, hf⟩
 exact ⟨rfl, S', hw, ((WrFr.refl S w).alloc _).trans hf⟩
/- two words -/
theorem word2_w (W w : World) (p : Nat) (T : TypeId) (S : Nat → Prop) (L N : List (List UInt8)) (s u : List UInt8) (g : Nat) (hg : g = w.heap.size) (h : Wr W w p T S L N) (hlen : L.length + 2 ≤ 1000000) :
 Calls Tryz.prog 27 #[.pointer (some ⟨p, 0, none⟩), .slice (some ⟨g, 0, none⟩) 2 2] (w.alloc (.cells #[vs s, vs u] 9)) (WrPost W w p T S (L ++ [s, u]) N) := by
 subst hg
 refine (add_any W _ p T S L N [s, u] _ 2 (h.alloc _) ?_ (by simpa using hlen)).mono ?_
 · intro j x hx
   match j, hx with
   | 0, hx => cases hx; exact cOb (new_at rfl) rfl
   | 1, hx => cases hx; exact cOb (new_at rfl) rfl
   | j + 2, hx => simp at hx
 rintro e w3 ⟨rfl, S', hw, hf⟩
 exact ⟨rfl, S', hw, ((WrFr.refl S w).alloc _).trans hf⟩
/- the boxes of a call that writes: the writer's address, and what is written -/
structure NB (W w0 wc : World) (p : Nat) (T : TypeId) (S0 S : Nat → Prop) (L N : List (List UInt8)) (bw bf : Nat) (Tp Tf : TypeId) (C : Array Value) : Prop where
 wr : Wr W wc p T S L N
 fr : WrFr S0 S w0 wc
 bx1 : wc.heap[bw]? = some (.cells #[.pointer (some ⟨p, 0, none⟩)] Tp (0, 0))
 bx2 : wc.heap[bf]? = some (.cells C Tf (0, 0))
 n1 : ¬ S bw
 n2 : ¬ S bf
theorem NB.step {W w0 wc w' : World} {p : Nat} {T : TypeId} {S0 S S' : Nat → Prop} {L N L' N' : List (List UInt8)} {bw bf : Nat} {Tp Tf : TypeId} {C : Array Value} (h : NB W w0 wc p T S0 S L N bw bf Tp Tf C) (hw : Wr W w' p T S' L' N') (hf : WrFr S S' wc w') : NB W w0 w' p T S0 S' L' N' bw bf Tp Tf C :=
 ⟨hw, h.fr.trans hf, (hf.box h.bx1 h.n1).1, (hf.box h.bx2 h.n2).1, (hf.box h.bx1 h.n1).2, (hf.box h.bx2 h.n2).2⟩
theorem NB.below {W w0 wc w' : World} {p : Nat} {T : TypeId} {S0 S : Nat → Prop} {L N : List (List UInt8)} {bw bf : Nat} {Tp Tf : TypeId} {C : Array Value} (h : NB W w0 wc p T S0 S L N bw bf Tp Tf C) (hb : Below wc.heap.size wc w') : NB W w0 w' p T S0 S L N bw bf Tp Tf C :=
 h.step (h.wr.keep hb) (WrFr.of_below _ hb)
theorem NB.alloc {W w0 wc : World} {p : Nat} {T : TypeId} {S0 S : Nat → Prop} {L N : List (List UInt8)} {bw bf : Nat} {Tp Tf : TypeId} {C : Array Value} (h : NB W w0 wc p T S0 S L N bw bf Tp Tf C) (o : Obj) : NB W w0 (wc.alloc o) p T S0 S L N bw bf Tp Tf C :=
 h.below ((Below.refl _ _).alloc (lR _) _)
theorem NB.start {W w : World} {p : Nat} {T : TypeId} {S : Nat → Prop} {L N : List (List UInt8)} {Tp Tf : TypeId} {C : Array Value} (h : Wr W w p T S L N) :
 NB W w ((w.alloc (.cells #[.pointer (some ⟨p, 0, none⟩)] Tp)).alloc (.cells C Tf)) p T S S L N w.heap.size (w.heap.size + 1) Tp Tf C :=
 ⟨(h.alloc _).alloc _, ((WrFr.refl S w).alloc _).alloc _, kept_at (new_at rfl), new_at (by simp), h.fresh, fun hs => by have := h.lt _ hs; omega⟩
theorem NB.lts {W w0 wc : World} {p : Nat} {T : TypeId} {S0 S : Nat → Prop} {L N : List (List UInt8)} {bw bf : Nat} {Tp Tf : TypeId} {C : Array Value} (h : NB W w0 wc p T S0 S L N bw bf Tp Tf C) : bw < wc.heap.size ∧ bf < wc.heap.size ∧ wc.cell? ⟨bw, 0, none⟩ = some (.pointer (some ⟨p, 0, none⟩)) :=
 ⟨lHp h.bx1, lHp h.bx2, cOb h.bx1 rfl⟩
theorem NB.post {W w0 wc : World} {p : Nat} {T : TypeId} {S0 S : Nat → Prop} {L N L' N' : List (List UInt8)} {bw bf : Nat} {Tp Tf : TypeId} {C : Array Value} (h : NB W w0 wc p T S0 S L N bw bf Tp Tf C) (hl : L = L') (hn : N = N') : WrPost W w0 p T S0 L' N' (.returned (.tuple #[])) wc := by
 subst hl hn
 exact ⟨rfl, S, h.wr, h.fr⟩
theorem inside_f (W w : World) (p : Nat) (T : TypeId) (S : Nat → Prop) (L N X Y : List (List UInt8)) (g : FuncId) (caps : Array Value) (hcf : ∀ us W, (callFunc g us).run Tryz.prog W = .ok (.enter g us) W)
 (hg : Calls Tryz.prog g caps w (WrPost W w p T S (L ++ X) (N ++ Y))) : Calls Tryz.prog 63 #[.pointer (some ⟨p, 0, none⟩), .bool false, .func (.func g) #[] caps] w (WrPost W w p T S (L ++ X) (N ++ Y)) := by
 have HG := Hi hg
 clear hg
 go_enter Tryz.func63, Tryz.ntmps63
 go_wp2_with fail
 refine HG.out.mono ?_
 rintro e w3 ⟨rfl, S', hw, hf⟩
 have HW := Hi hw
 have HF := Hi hf
 clear hw hf
 go_wp2_with fail
 go_end0
 exact ⟨rfl, S', HW.out, HF.out⟩
theorem inside_t (W w : World) (p : Nat) (T : TypeId) (S : Nat → Prop) (L N X Y : List (List UInt8)) (g : FuncId) (caps : Array Value) (h : Wr W w p T S L N) (hlen : L.length + X.length + 2 ≤ 1000000) (hcf : ∀ us W, (callFunc g us).run Tryz.prog W = .ok (.enter g us) W)
 (hg : ∀ w1 S1, Wr W w1 p T S1 (L ++ [wLp]) N → WrFr S S1 w w1 → Calls Tryz.prog g caps w1 (WrPost W w1 p T S1 (L ++ [wLp] ++ X) (N ++ Y))) : Calls Tryz.prog 63 #[.pointer (some ⟨p, 0, none⟩), .bool true, .func (.func g) #[] caps] w (WrPost W w p T S (L ++ wLp :: (X ++ [wRp])) (N ++ Y)) := by
 have HG := Hi hg
 have H := Hi h
 clear hg h
 go_enter Tryz.func63, Tryz.ntmps63
 go_wp2_with fail
 refine (word_w W _ p T S L N [40] _ rfl H.out (by omega)).mono ?_
 rintro e w1 ⟨rfl, S1, hw1, hf1⟩
 have HW1 := Hi hw1
 have HF1 := Hi hf1
 clear hw1 hf1
 go_wp2_with fail
 refine (HG.out _ S1 HW1.out HF1.out).mono ?_
 rintro e w2 ⟨rfl, S2, hw2, hf2⟩
 have HW2 := Hi hw2
 have HF2 := Hi hf2
 clear hw2 hf2
 go_wp2_with fail
 refine (word_w W _ p T S2 (L ++ [wLp] ++ X) (N ++ Y) [41] _ rfl HW2.out (by simp; omega)).mono ?_
 rintro e w3 ⟨rfl, S3, hw3, hf3⟩
 have HW3 := Hi hw3
 have HF3 := Hi hf3
 clear hw3 hf3
 go_wp2_with fail
 go_end0
 refine ⟨rfl, S3, ?_, (HF1.out.trans HF2.out).trans HF3.out⟩
 have := HW3.out
 simpa using this
end Go.Proofs.YtbicmjmcdnkjhaaGreatDoor
namespace Go.Proofs.YtbicmjmcdnkjhaaGreatDoor
theorem sepW_snoc (w : Bytes) (x : List Bytes) : ∀ xs : List (List Bytes), sepW w (xs ++ [x]) = sepW w xs ++ ((if xs = [] then [] else [w]) ++ x)
 | [] => by simp [sepW]
 | [a] => by simp [sepW]
 | a :: b :: r => by
   have := sepW_snoc w x (b :: r)
   simp only [List.cons_append, sepW] at this ⊢
   rw [this]
   simp
theorem sepW_le (w : Bytes) : ∀ xs : List (List Bytes), (sepW w xs).length ≤ xs.flatten.length + xs.length
 | [] => by simp [sepW]
 | [a] => by simp [sepW]
 | a :: b :: r => by
   have := sepW_le w (b :: r)
   simp only [sepW, List.length_append, List.length_cons, List.flatten_cons] at this ⊢
   omega
theorem wrap_le (b : Bool) (k : Tree) (oa oo : Nat) (l : List Bytes) : (wrapW b k oa oo l).length ≤ l.length + 2 := by
 unfold wrapW
 split <;> simp
theorem sizes_split (ks : List Tree) (k : Nat) : sizes (ks.take k) ≤ sizes ks := by
 induction ks generalizing k with
 | nil => simp
 | cons a r ih =>
   cases k with
   | zero => simp [sizes]
   | succ k =>
     have := ih k
     rw [List.take_succ_cons, sizes, sizes]
     omega
theorem sizes_snoc {ks : List Tree} {k : Nat} {t : Tree} (h : ks[k]? = some t) : sizes (ks.take (k + 1)) = sizes (ks.take k) + t.size := by
 induction ks generalizing k with
 | nil => simp at h
 | cons a r ih =>
   cases k with
   | zero =>
     simp at h
     subst h
     simp [sizes]
   | succ k =>
     have := ih (k := k) (by simpa using h)
     rw [List.take_succ_cons, List.take_succ_cons, sizes, sizes, this]
     omega
mutual
theorem wF_le : ∀ t : Tree, (wF t).length + 3 ≤ 6 * t.size
 | .mk op name cmp n ks => by
   have h0 := fun b => wFs_le b ks
   have h1 := h0 false
   have h2 := h0 true
   have h3 := fun w b => sepW_le w (wFs b ks)
   have h4 := h3 wAnd false
   have h5 := h3 wOr true
   rw [wF, Tree.size]
   repeat' split
   all_goals first | (simp only [List.length_cons, List.length_nil]; omega) | omega
theorem wFs_le (b : Bool) : ∀ ks : List Tree, (wFs b ks).flatten.length + (wFs b ks).length ≤ 6 * sizes ks
 | [] => by rw [wFs, sizes]; simp
 | k :: r => by
   have h1 := wF_le k
   have h2 := wFs_le b r
   have h3 := wrap_le b k 6 7 (wF k)
   rw [wFs, sizes]
   simp only [List.flatten_cons, List.length_append, List.length_cons]
   omega
end
theorem wFs_snoc (b : Bool) {ks : List Tree} {k : Nat} {t : Tree} (h : ks[k]? = some t) : wFs b (ks.take (k + 1)) = wFs b (ks.take k) ++ [wrapW b t 6 7 (wF t)] := by
 rw [wFs_map, wFs_map, List.take_add_one, h, List.map_append]
 rfl
theorem wFs_len (b : Bool) (ks : List Tree) : (wFs b ks).length = ks.length := by rw [wFs_map, List.length_map]
theorem sep_wF (b : Bool) (w : Bytes) (ks : List Tree) : (sepW w (wFs b ks)).length ≤ 6 * sizes ks := Nat.le_trans (sepW_le _ _) (wFs_le b ks)
mutual
theorem wS_le : ∀ t : Tree, (wS t).length + 3 ≤ 6 * t.size
 | .mk op name cmp n ks => by
   have h0 := fun b => wSs_le b ks
   have h1 := h0 false
   have h2 := h0 true
   have h3 := fun w b => sepW_le w (wSs b ks)
   have h4 := h3 wAnd false
   have h5 := h3 wOr true
   rw [wS, Tree.size]
   repeat' split
   all_goals first | (simp only [List.length_cons, List.length_nil]; omega) | omega
theorem wSs_le (b : Bool) : ∀ ks : List Tree, (wSs b ks).flatten.length + (wSs b ks).length ≤ 6 * sizes ks
 | [] => by rw [wSs, sizes]; simp
 | k :: r => by
   have h1 := wS_le k
   have h2 := wSs_le b r
   have h3 := wrap_le b k 8 9 (wS k)
   rw [wSs, sizes]
   simp only [List.flatten_cons, List.length_append, List.length_cons]
   omega
end
theorem wSs_snoc (b : Bool) {ks : List Tree} {k : Nat} {t : Tree} (h : ks[k]? = some t) : wSs b (ks.take (k + 1)) = wSs b (ks.take k) ++ [wrapW b t 8 9 (wS t)] := by
 rw [wSs_map, wSs_map, List.take_add_one, h, List.map_append]
 rfl
theorem wSs_len (b : Bool) (ks : List Tree) : (wSs b ks).length = ks.length := by rw [wSs_map, List.length_map]
theorem sep_wS (b : Bool) (w : Bytes) (ks : List Tree) : (sepW w (wSs b ks)).length ≤ 6 * sizes ks := Nat.le_trans (sepW_le _ _) (wSs_le b ks)
namespace So
mutual
theorem wF_le : ∀ t : Tree, (wF t).length ≤ 3 * t.size
 | .mk op name cmp n ks => by
   have h1 := wFs_le ks
   rw [wF, Tree.size, List.length_append]
   repeat' split
   all_goals first | (simp only [List.length_cons, List.length_nil]; omega) | omega
theorem wFs_le : ∀ ks : List Tree, (wFs ks).length ≤ 3 * sizes ks
 | [] => by rw [wFs, sizes]; simp
 | k :: r => by
   have h1 := wF_le k
   have h2 := wFs_le r
   rw [wFs, sizes, List.length_append]
   omega
end
theorem wFs_snoc : ∀ {ks : List Tree} {k : Nat} {t : Tree}, ks[k]? = some t → wFs (ks.take (k + 1)) = wFs (ks.take k) ++ wF t
 | [], k, t, h => by simp at h
 | a :: r, 0, t, h => by
   simp at h
   subst h
   simp [wFs]
 | a :: r, k + 1, t, h => by
   have := wFs_snoc (ks := r) (k := k) (by simpa using h)
   rw [List.take_succ_cons, List.take_succ_cons, wFs, wFs, this, List.append_assoc]
mutual
theorem wS_le : ∀ t : Tree, (wS t).length ≤ 3 * t.size
 | .mk op name cmp n ks => by
   have h1 := wSs_le ks
   rw [wS, Tree.size, List.length_append]
   repeat' split
   all_goals first | (simp only [List.length_cons, List.length_nil]; omega) | omega
theorem wSs_le : ∀ ks : List Tree, (wSs ks).length ≤ 3 * sizes ks
 | [] => by rw [wSs, sizes]; simp
 | k :: r => by
   have h1 := wS_le k
   have h2 := wSs_le r
   rw [wSs, sizes, List.length_append]
   omega
end
theorem wSs_snoc : ∀ {ks : List Tree} {k : Nat} {t : Tree}, ks[k]? = some t → wSs (ks.take (k + 1)) = wSs (ks.take k) ++ wS t
 | [], k, t, h => by simp at h
 | a :: r, 0, t, h => by
   simp at h
   subst h
   simp [wSs]
 | a :: r, k + 1, t, h => by
   have := wSs_snoc (ks := r) (k := k) (by simpa using h)
   rw [List.take_succ_cons, List.take_succ_cons, wSs, wSs, this, List.append_assoc]
end So
theorem namesFs_snoc : ∀ {ks : List Tree} {k : Nat} {t : Tree}, ks[k]? = some t → namesFs (ks.take (k + 1)) = namesFs (ks.take k) ++ namesF t
 | [], k, t, h => by simp at h
 | a :: r, 0, t, h => by
   simp at h
   subst h
   simp [namesFs]
 | a :: r, k + 1, t, h => by
   have := namesFs_snoc (ks := r) (k := k) (by simpa using h)
   rw [List.take_succ_cons, List.take_succ_cons, namesFs, namesFs, this, List.append_assoc]
theorem namesSs_snoc : ∀ {ks : List Tree} {k : Nat} {t : Tree}, ks[k]? = some t → namesSs (ks.take (k + 1)) = namesSs (ks.take k) ++ namesS t
 | [], k, t, h => by simp at h
 | a :: r, 0, t, h => by
   simp at h
   subst h
   simp [namesSs]
 | a :: r, k + 1, t, h => by
   have := namesSs_snoc (ks := r) (k := k) (by simpa using h)
   rw [List.take_succ_cons, List.take_succ_cons, namesSs, namesSs, this, List.append_assoc]
mutual
theorem namesF_le : ∀ t : Tree, (namesF t).length ≤ t.size
 | .mk op name cmp n ks => by
   have h1 := namesFs_le ks
   rw [namesF, Tree.size, List.length_append]
   split <;> simp <;> omega
theorem namesFs_le : ∀ ks : List Tree, (namesFs ks).length ≤ sizes ks
 | [] => by rw [namesFs, sizes]; simp
 | k :: r => by
   have h1 := namesF_le k
   have h2 := namesFs_le r
   rw [namesFs, sizes, List.length_append]
   omega
end
mutual
theorem namesS_le : ∀ t : Tree, (namesS t).length ≤ t.size
 | .mk op name cmp n ks => by
   have h1 := namesSs_le ks
   rw [namesS, Tree.size, List.length_append]
   split <;> simp <;> omega
theorem namesSs_le : ∀ ks : List Tree, (namesSs ks).length ≤ sizes ks
 | [] => by rw [namesSs, sizes]; simp
 | k :: r => by
   have h1 := namesS_le k
   have h2 := namesSs_le r
   rw [namesSs, sizes, List.length_append]
   omega
end
theorem shapeFs_get : ∀ {ks : List Tree} {k : Nat} {t : Tree}, shapeFs ks = true → ks[k]? = some t → shapeF t = true
 | [], k, t, _, h => by simp at h
 | a :: r, 0, t, hs, h => by
   simp at h
   subst h
   rw [shapeFs, Bool.and_eq_true] at hs
   exact hs.1
 | a :: r, k + 1, t, hs, h => by
   rw [shapeFs, Bool.and_eq_true] at hs
   exact shapeFs_get hs.2 (by simpa using h)
theorem shapeSs_get : ∀ {ks : List Tree} {k : Nat} {t : Tree}, shapeSs ks = true → ks[k]? = some t → shapeS t = true
 | [], k, t, _, h => by simp at h
 | a :: r, 0, t, hs, h => by
   simp at h
   subst h
   rw [shapeSs, Bool.and_eq_true] at hs
   exact hs.1
 | a :: r, k + 1, t, hs, h => by
   rw [shapeSs, Bool.and_eq_true] at hs
   exact shapeSs_get hs.2 (by simpa using h)
theorem ups_get : ∀ {ks : List Tree} {k : Nat} {t : Tree}, ks[k]? = some t → (ups ks)[k]? = some (up t)
 | [], k, t, h => by simp at h
 | a :: r, 0, t, h => by
   simp at h
   subst h
   rw [ups]; rfl
 | a :: r, k + 1, t, h => by
   rw [ups]
   simpa using ups_get (ks := r) (k := k) (by simpa using h)
end Go.Proofs.YtbicmjmcdnkjhaaGreatDoor
