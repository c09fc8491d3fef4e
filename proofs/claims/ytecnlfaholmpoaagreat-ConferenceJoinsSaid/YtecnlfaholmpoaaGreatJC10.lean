/- patch.change: words, joined. Two patches compared: one law. patch.formed. patch.formed: words. patch.formed: insert, number; all kinds. What patches do, in plain words: formed, Apply, Invert, All. -/
import Derived.Test.YtecnlfaholmpoaaGreatJC9
import Derived.Lib.IndexMore
set_option linter.unusedVariables false
set_option linter.unusedSimpArgs false
namespace Go.Proofs.YtecnlfaholmpoaaGreat
open Go.RowKit
def wordsText (p : Patch) (x : Item) : Str := if p.lang = 1 then x.no else x.so
def wordsPut (p : Patch) (x : Item) (s : Str) : Item := if p.lang = 1 then { x with no := s } else { x with so := s }
def wordsNew (p : Patch) (x : Item) : Str := swap (wordsText p x) p.fr p.to (onceAt (wordsText p x) p.fr).toNat
def wordsF (l : List Item) (p : Patch) (k : Nat) (x : Item) : List Item × Int :=
 if onceIs (wordsText p x) p.fr = false then ([], 15)
 else if 400 < (wordsNew p x).length then ([], 2)
 else (l.set k (wordsPut p x (wordsNew p x)), 0)
theorem once_room {t f : Str} (h : onceIs t f = true) : ∃ i : Nat, onceAt t f = i ∧ i + f.length ≤ t.length := by
 unfold onceIs at h
 simp at h
 have hr := Lib.index_room t f h.1
 unfold onceAt at h ⊢
 exact ⟨(Lib.index t f).toNat, by omega, by omega⟩
theorem words_any (l : List Item) (A : Option Addr) (c : Nat) (p : Patch) (k : Nat) (x : Item) (w : World) (hr : RdI w A l) (hl : l.length ≤ 1000000) (hx : l[k]? = some x) (m : Int) (hg : w.cell? ⟨0, 0, none⟩ = some (.int .i64 m))
 (hlang : p.lang = 1 ∨ p.lang = 2) (hn : x.no.length ≤ 1000000) (hs : x.so.length ≤ 1000000) (htt : p.to.length ≤ 1000000) :
 Does 61 l A c p k w (wordsF l p k x) := by
 rcases hlang with hL | hL
 · have h0 : p.lang - 1 = 0 := by omega
   unfold wordsF wordsNew wordsPut wordsText
   simp only [if_pos hL]
   cases ho : onceIs x.no p.fr with
   | false => exact words_a_no l A c p k x w hr hl hx m hg h0 hn htt ho
   | true =>
     obtain ⟨i, hi, hil⟩ := once_room ho
     rw [hi]
     by_cases h4 : 400 < (swap x.no p.fr p.to i).length
     · simp only [Int.toNat_natCast, if_pos h4]
       exact words_b_no l A c p k x w hr hl hx m hg h0 hn htt ho i hi hil _ rfl h4
     · simp only [Int.toNat_natCast, if_neg h4]
       exact words_c_no l A c p k x w hr hl hx m hg h0 hn htt ho i hi hil _ rfl (by omega)
 · have h0 : p.lang - 1 = 1 := by omega
   have hL1 : ¬ p.lang = 1 := by omega
   unfold wordsF wordsNew wordsPut wordsText
   simp only [if_neg hL1]
   cases ho : onceIs x.so p.fr with
   | false => exact words_a_so l A c p k x w hr hl hx m hg h0 hs htt ho
   | true =>
     obtain ⟨i, hi, hil⟩ := once_room ho
     rw [hi]
     by_cases h4 : 400 < (swap x.so p.fr p.to i).length
     · simp only [Int.toNat_natCast, if_pos h4]
       exact words_b_so l A c p k x w hr hl hx m hg h0 hs htt ho i hi hil _ rfl h4
     · simp only [Int.toNat_natCast, if_neg h4]
       exact words_c_so l A c p k x w hr hl hx m hg h0 hs htt ho i hi hil _ rfl (by omega)
end Go.Proofs.YtecnlfaholmpoaaGreat
set_option maxRecDepth 20000
namespace Go.Proofs.YtecnlfaholmpoaaGreat
open Go.RowKit
theorem ite_eql {α : Type} [BEq α] [LawfulBEq α] [DecidableEq α] (x y : α) (c : Bool) (W : World) : (if x = y then (Result.ok (Value.bool c) W : Result Value) else Result.ok (Value.bool false) W) = Result.ok (Value.bool (x == y && c)) W := by
 by_cases h : x = y
 · subst h; simp
 · rw [if_neg h]; simp [h]
def eqlPat (A B : Array Value) : Sem Value := binOp .eql 49 (.agg A) (.agg B)
@[go_sem] theorem run_eqlPat (a0 b0 : Int) (a1 b1 : Str) (a2 b2 : Str) (a3 b3 : Str) (a4 b4 : Str) (a5 b5 : Int) (a6 b6 : Str) (a7 b7 : Str) (a8 b8 : Str) (a9 b9 : Str) (a10 b10 : Str) (a11 b11 : Bool) (a12 b12 : Int) (a13 b13 : Str) (a14 b14 : Str) (W : World) : (eqlPat #[.int .i64 a0, vs a1, vs a2, vs a3, vs a4, .int .i64 a5, vs a6, vs a7, vs a8, vs a9, vs a10, .bool a11, .int .i64 a12, vs a13, vs a14] #[.int .i64 b0, vs b1, vs b2, vs b3, vs b4, .int .i64 b5, vs b6, vs b7, vs b8, vs b9, vs b10, .bool b11, .int .i64 b12, vs b13, vs b14]).run Tryz.prog W = .ok (.bool (a0 == b0 && (a1 == b1 && (a2 == b2 && (a3 == b3 && (a4 == b4 && (a5 == b5 && (a6 == b6 && (a7 == b7 && (a8 == b8 && (a9 == b9 && (a10 == b10 && (a11 == b11 && (a12 == b12 && (a13 == b13 && (a14 == b14)))))))))))))))) W := by
 unfold eqlPat
 simp [go_sem]
 simp only [ite_eql]
 simp only [Bool.and_true]

@[go_sem high] theorem fold_eqlPat (A B : Array Value) : binOp .eql 49 (.agg A) (.agg B) = eqlPat A B := rfl
end Go.Proofs.YtecnlfaholmpoaaGreat
set_option maxRecDepth 20000
set_option maxHeartbeats 1000000
namespace Go.Proofs.YtecnlfaholmpoaaGreat
open Go.RowKit
theorem formed1_any (x : Item) (w : World) (hsh : x.Short) :
 Calls Tryz.prog 100 #[x.agg] w fun e w' => e = .returned (.bool (walkB [x])) ∧ Below w.heap.size w w' := by
 go_enter Tryz.func100, Tryz.ntmps100
 go_wp2_with fail
 refine (valid_any [x] (some ⟨w.heap.size + 1, 0, none⟩) 1 _ (RdI.of_row (cur := x.cells) (rest := []) (t := 47) (heap_new_at (by simp)) (by simp [flat])) (by simp) (by simpa using hsh)).mono ?_
 rintro e w1 ⟨rfl, hb1⟩
 go_wp2_with fail
 go_ret
 exact ⟨rfl, (((Below.refl _ _).alloc (Nat.le_refl _) _).alloc (by simp) _).trans (hb1.mono (by simp; omega))⟩
def patEq (p q : Patch) : Bool :=
 p.kind == q.kind && (p.id == q.id && (p.par == q.par && (p.aft == q.aft && (p.num == q.num && (p.item.kind == q.item.kind && (p.item.id == q.item.id && (p.item.par == q.item.par && (p.item.num == q.item.num && (p.item.no == q.item.no && (p.item.so == q.item.so && (p.item.gone == q.item.gone && (p.lang == q.lang && (p.fr == q.fr && p.to == q.to)))))))))))))
def bare (p : Patch) : Patch := ⟨p.kind, p.id, [], [], [], noItem, 0, [], []⟩
theorem isEmpty_eq (l : Str) : (l == []) = l.isEmpty := by cases l <;> rfl
theorem formed_5 (p : Patch) (w : World) (hk : p.kind = 5) :
 Calls Tryz.prog 58 #[p.agg] w fun e w' => e = .returned (.bool (patEq p (bare p))) ∧ Below w.heap.size w w' := by
 have hd1 : (p.kind == 1) = false := by simp [hk]
 have hd2 : (p.kind == 2) = false := by simp [hk]
 have hd3 : (p.kind == 3) = false := by simp [hk]
 have hd4 : (p.kind == 4) = false := by simp [hk]
 have hd5 : (p.kind == 5) = true := by simp [hk]
 have hd6 : (p.kind == 6) = false := by simp [hk]
 have hd7 : (p.kind == 7) = false := by simp [hk]
 clear hk
 go_enter Tryz.func58, Tryz.ntmps58
 go_wp2_with fail
 go_ret
 exact ⟨ret_bool (by unfold patEq bare noItem; simp [isEmpty_eq]), ((Below.refl _ _).alloc (Nat.le_refl _) _).alloc (by simp) _⟩
theorem formed_6 (p : Patch) (w : World) (hk : p.kind = 6) :
 Calls Tryz.prog 58 #[p.agg] w fun e w' => e = .returned (.bool (patEq p (bare p))) ∧ Below w.heap.size w w' := by
 have hd1 : (p.kind == 1) = false := by simp [hk]
 have hd2 : (p.kind == 2) = false := by simp [hk]
 have hd3 : (p.kind == 3) = false := by simp [hk]
 have hd4 : (p.kind == 4) = false := by simp [hk]
 have hd5 : (p.kind == 5) = false := by simp [hk]
 have hd6 : (p.kind == 6) = true := by simp [hk]
 have hd7 : (p.kind == 7) = false := by simp [hk]
 clear hk
 go_enter Tryz.func58, Tryz.ntmps58
 go_wp2_with fail
 go_ret
 exact ⟨ret_bool (by unfold patEq bare noItem; simp [isEmpty_eq]), ((Below.refl _ _).alloc (Nat.le_refl _) _).alloc (by simp) _⟩
theorem formed_4 (p : Patch) (w : World) (hk : p.kind = 4) :
 Calls Tryz.prog 58 #[p.agg] w fun e w' => e = .returned (.bool (patEq p { bare p with par := p.par, aft := p.aft })) ∧ Below w.heap.size w w' := by
 have hd1 : (p.kind == 1) = false := by simp [hk]
 have hd2 : (p.kind == 2) = false := by simp [hk]
 have hd3 : (p.kind == 3) = false := by simp [hk]
 have hd4 : (p.kind == 4) = true := by simp [hk]
 have hd5 : (p.kind == 5) = false := by simp [hk]
 have hd6 : (p.kind == 6) = false := by simp [hk]
 have hd7 : (p.kind == 7) = false := by simp [hk]
 clear hk
 go_enter Tryz.func58, Tryz.ntmps58
 go_wp2_with fail
 go_region
 go_wp2_with fail
 go_ret
 exact ⟨ret_bool (by unfold patEq bare noItem; simp [isEmpty_eq]), (((Below.refl _ _).alloc (Nat.le_refl _) _).alloc (by simp) _).drew⟩
theorem formed_7 (p : Patch) (w : World) (hk : p.kind = 7) :
 Calls Tryz.prog 58 #[p.agg] w fun e w' => e = .returned (.bool (patEq p { bare p with item := { noItem with no := p.item.no, so := p.item.so } })) ∧ Below w.heap.size w w' := by
 have hd1 : (p.kind == 1) = false := by simp [hk]
 have hd2 : (p.kind == 2) = false := by simp [hk]
 have hd3 : (p.kind == 3) = false := by simp [hk]
 have hd4 : (p.kind == 4) = false := by simp [hk]
 have hd5 : (p.kind == 5) = false := by simp [hk]
 have hd6 : (p.kind == 6) = false := by simp [hk]
 have hd7 : (p.kind == 7) = true := by simp [hk]
 clear hk
 go_enter Tryz.func58, Tryz.ntmps58
 go_wp2_with fail
 go_region
 go_wp2_with fail
 go_ret
 exact ⟨ret_bool (by unfold patEq bare noItem; simp [isEmpty_eq]), (((Below.refl _ _).alloc (Nat.le_refl _) _).alloc (by simp) _).drew⟩
theorem formed_0 (p : Patch) (w : World) (hk : p.kind < 1 ∨ 7 < p.kind) :
 Calls Tryz.prog 58 #[p.agg] w fun e w' => e = .returned (.bool false) ∧ Below w.heap.size w w' := by
 have hd1 : (p.kind == 1) = false := by simp; omega
 have hd2 : (p.kind == 2) = false := by simp; omega
 have hd3 : (p.kind == 3) = false := by simp; omega
 have hd4 : (p.kind == 4) = false := by simp; omega
 have hd5 : (p.kind == 5) = false := by simp; omega
 have hd6 : (p.kind == 6) = false := by simp; omega
 have hd7 : (p.kind == 7) = false := by simp; omega
 clear hk
 go_enter Tryz.func58, Tryz.ntmps58
 go_wp2_with fail
 go_ret
 exact ⟨rfl, ((Below.refl _ _).alloc (Nat.le_refl _) _).alloc (by simp) _⟩
end Go.Proofs.YtecnlfaholmpoaaGreat
set_option maxRecDepth 20000
set_option maxHeartbeats 1000000
namespace Go.Proofs.YtecnlfaholmpoaaGreat
open Go.RowKit
def form2 (p : Patch) : Bool := (List.isEmpty p.par && (List.isEmpty p.aft && (List.isEmpty p.num && (p.item.kind == 0 && (List.isEmpty p.item.id && (List.isEmpty p.item.par && (List.isEmpty p.item.num && (List.isEmpty p.item.no && (List.isEmpty p.item.so && !p.item.gone)))))))))
theorem formed_2a (p : Patch) (w : World) (hk : p.kind = 2) (hE : form2 p = false) :
 Calls Tryz.prog 58 #[p.agg] w fun e w' => e = .returned (.bool false) ∧ Below w.heap.size w w' := by
 have hd1 : (p.kind == 1) = false := by simp [hk]
 have hd2 : (p.kind == 2) = true := by simp [hk]
 clear hk
 have HE := Lib.hid hE; clear hE
 go_enter Tryz.func58, Tryz.ntmps58
 have hE := HE.out
 unfold form2 at hE
 go_wp2_with fail
 go_region
 go_wp2_with fail
 go_ret
 exact ⟨rfl, (((Below.refl _ _).alloc (Nat.le_refl _) _).alloc (by simp) _).drew⟩
theorem formed_2b (p : Patch) (w : World) (hk : p.kind = 2) (hE : form2 p = true) (hf : p.fr.isEmpty = true) :
 Calls Tryz.prog 58 #[p.agg] w fun e w' => e = .returned (.bool false) ∧ Below w.heap.size w w' := by
 have hd1 : (p.kind == 1) = false := by simp [hk]
 have hd2 : (p.kind == 2) = true := by simp [hk]
 clear hk
 have HE := Lib.hid hE; clear hE
 go_enter Tryz.func58, Tryz.ntmps58
 have hE := HE.out
 unfold form2 at hE
 go_wp2_with fail
 go_region
 go_wp2_with fail
 go_ret
 exact ⟨rfl, (((Below.refl _ _).alloc (Nat.le_refl _) _).alloc (by simp) _).drew⟩
theorem formed_2c (p : Patch) (w : World) (hk : p.kind = 2) (hE : form2 p = true) (hf : p.fr.isEmpty = false) (hl : (p.lang == 1) = true) :
 Calls Tryz.prog 58 #[p.agg] w fun e w' => e = .returned (.bool true) ∧ Below w.heap.size w w' := by
 have hd1 : (p.kind == 1) = false := by simp [hk]
 have hd2 : (p.kind == 2) = true := by simp [hk]
 clear hk
 have HE := Lib.hid hE; clear hE
 go_enter Tryz.func58, Tryz.ntmps58
 have hE := HE.out
 unfold form2 at hE
 go_wp2_with fail
 go_region
 go_wp2_with fail
 go_ret
 exact ⟨rfl, (((Below.refl _ _).alloc (Nat.le_refl _) _).alloc (by simp) _).drew⟩
theorem formed_2d (p : Patch) (w : World) (hk : p.kind = 2) (hE : form2 p = true) (hf : p.fr.isEmpty = false) (hl : (p.lang == 1) = false) :
 Calls Tryz.prog 58 #[p.agg] w fun e w' => e = .returned (.bool (p.lang == 2)) ∧ Below w.heap.size w w' := by
 have hd1 : (p.kind == 1) = false := by simp [hk]
 have hd2 : (p.kind == 2) = true := by simp [hk]
 clear hk
 have HE := Lib.hid hE; clear hE
 go_enter Tryz.func58, Tryz.ntmps58
 have hE := HE.out
 unfold form2 at hE
 go_wp2_with fail
 go_region
 go_wp2_with fail
 go_ret
 exact ⟨rfl, (((Below.refl _ _).alloc (Nat.le_refl _) _).alloc (by simp) _).drew⟩
end Go.Proofs.YtecnlfaholmpoaaGreat
set_option maxRecDepth 20000
set_option maxHeartbeats 1000000
namespace Go.Proofs.YtecnlfaholmpoaaGreat
open Go.RowKit
def form1 (p : Patch) : Bool := (List.isEmpty p.num && (p.lang == 0 && (List.isEmpty p.fr && List.isEmpty p.to)))
theorem formed_1a (p : Patch) (w : World) (hk : p.kind = 1) (hE : form1 p = false) :
 Calls Tryz.prog 58 #[p.agg] w fun e w' => e = .returned (.bool false) ∧ Below w.heap.size w w' := by
 have hd1 : (p.kind == 1) = true := by simp [hk]
 clear hk
 have HE := Lib.hid hE; clear hE
 go_enter Tryz.func58, Tryz.ntmps58
 have hE := HE.out
 unfold form1 at hE
 go_wp2_with fail
 go_region
 go_wp2_with fail
 go_ret
 exact ⟨rfl, ((((Below.refl _ _).alloc (Nat.le_refl _) _).alloc (by simp) _).alloc (by simp; omega) _).drew⟩
theorem formed_1b (p : Patch) (w : World) (hk : p.kind = 1) (hE : form1 p = true) (h2 : (p.item.id == p.id) = false) :
 Calls Tryz.prog 58 #[p.agg] w fun e w' => e = .returned (.bool false) ∧ Below w.heap.size w w' := by
 have hd1 : (p.kind == 1) = true := by simp [hk]
 clear hk
 have HE := Lib.hid hE; clear hE
 go_enter Tryz.func58, Tryz.ntmps58
 have hE := HE.out
 unfold form1 at hE
 go_wp2_with fail
 go_region
 go_wp2_with fail
 go_ret
 exact ⟨rfl, ((((Below.refl _ _).alloc (Nat.le_refl _) _).alloc (by simp) _).alloc (by simp; omega) _).drew⟩
theorem formed_1c (p : Patch) (w : World) (hk : p.kind = 1) (hE : form1 p = true) (h2 : (p.item.id == p.id) = true) (h3 : (p.item.par == p.par) = false) :
 Calls Tryz.prog 58 #[p.agg] w fun e w' => e = .returned (.bool false) ∧ Below w.heap.size w w' := by
 have hd1 : (p.kind == 1) = true := by simp [hk]
 clear hk
 have HE := Lib.hid hE; clear hE
 go_enter Tryz.func58, Tryz.ntmps58
 have hE := HE.out
 unfold form1 at hE
 go_wp2_with fail
 go_region
 go_wp2_with fail
 go_ret
 exact ⟨rfl, ((((Below.refl _ _).alloc (Nat.le_refl _) _).alloc (by simp) _).alloc (by simp; omega) _).drew⟩
theorem formed_1d (p : Patch) (w : World) (hk : p.kind = 1) (hsh : ({ p.item with par := [] } : Item).Short) (hE : form1 p = true) (h2 : (p.item.id == p.id) = true) (h3 : (p.item.par == p.par) = true) :
 Calls Tryz.prog 58 #[p.agg] w fun e w' => e = .returned (.bool (walkB [{ p.item with par := [] }])) ∧ Below w.heap.size w w' := by
 have hd1 : (p.kind == 1) = true := by simp [hk]
 clear hk
 have HE := Lib.hid hE; clear hE
 go_enter Tryz.func58, Tryz.ntmps58
 have hE := HE.out
 unfold form1 at hE
 go_wp2_with fail
 go_region
 go_wp2_with fail
 refine (formed1_any { p.item with par := [] } _ hsh).mono ?_
 rintro e w1 ⟨rfl, hb1⟩
 have HB1 := Lib.hid hb1; clear hb1
 go_wp2_with fail
 go_ret
 exact ⟨rfl, ((((Below.refl _ _).alloc (Nat.le_refl _) _).alloc (by simp) _).alloc (by simp; omega) _).drew.trans (HB1.out.mono (by simp; omega))⟩
def form3 (p : Patch) : Bool := (List.isEmpty p.par && (List.isEmpty p.aft && (p.item.kind == 0 && (List.isEmpty p.item.id && (List.isEmpty p.item.par && (List.isEmpty p.item.num && (List.isEmpty p.item.no && (List.isEmpty p.item.so && (!p.item.gone && (p.lang == 0 && (List.isEmpty p.fr && List.isEmpty p.to)))))))))))
theorem formed_3a (p : Patch) (w : World) (hk : p.kind = 3) (hE : form3 p = false) :
 Calls Tryz.prog 58 #[p.agg] w fun e w' => e = .returned (.bool false) ∧ Below w.heap.size w w' := by
 have hd1 : (p.kind == 1) = false := by simp [hk]
 have hd2 : (p.kind == 2) = false := by simp [hk]
 have hd3 : (p.kind == 3) = true := by simp [hk]
 clear hk
 have HE := Lib.hid hE; clear hE
 go_enter Tryz.func58, Tryz.ntmps58
 have hE := HE.out
 unfold form3 at hE
 go_wp2_with fail
 go_ret
 exact ⟨rfl, (((Below.refl _ _).alloc (Nat.le_refl _) _).alloc (by simp) _)⟩
theorem formed_3b (p : Patch) (w : World) (hk : p.kind = 3) (hsh : (⟨1, [100], [], p.num, [], [], false⟩ : Item).Short) (hE : form3 p = true) :
 Calls Tryz.prog 58 #[p.agg] w fun e w' => e = .returned (.bool (walkB [⟨1, [100], [], p.num, [], [], false⟩])) ∧ Below w.heap.size w w' := by
 have hd1 : (p.kind == 1) = false := by simp [hk]
 have hd2 : (p.kind == 2) = false := by simp [hk]
 have hd3 : (p.kind == 3) = true := by simp [hk]
 clear hk
 have HE := Lib.hid hE; clear hE
 go_enter Tryz.func58, Tryz.ntmps58
 have hE := HE.out
 unfold form3 at hE
 go_wp2_with fail
 refine (formed1_any ⟨1, [100], [], p.num, [], [], false⟩ _ hsh).mono ?_
 rintro e w1 ⟨rfl, hb1⟩
 have HB1 := Lib.hid hb1; clear hb1
 go_wp2_with fail
 go_ret
 exact ⟨rfl, (((Below.refl _ _).alloc (Nat.le_refl _) _).alloc (by simp) _).trans (HB1.out.mono (by simp; omega))⟩
end Go.Proofs.YtecnlfaholmpoaaGreat
namespace Go.Proofs.YtecnlfaholmpoaaGreat
def formedF (p : Patch) : Bool :=
 if p.kind = 1 then patEq p { bare p with par := p.par, aft := p.aft, item := p.item } && (p.item.id == p.id && (p.item.par == p.par && walkB [{ p.item with par := [] }]))
 else if p.kind = 2 then patEq p { bare p with lang := p.lang, fr := p.fr, to := p.to } && (!p.fr.isEmpty && (p.lang == 1 || p.lang == 2))
 else if p.kind = 3 then patEq p { bare p with num := p.num } && walkB [⟨1, [100], [], p.num, [], [], false⟩]
 else if p.kind = 4 then patEq p { bare p with par := p.par, aft := p.aft }
 else if p.kind = 5 ∨ p.kind = 6 then patEq p (bare p)
 else if p.kind = 7 then patEq p { bare p with item := { noItem with no := p.item.no, so := p.item.so } }
 else false
def applyF (l : List Item) (p : Patch) : List Item × Int :=
 if walkB l = false ∨ formedF p = false then ([], 1)
 else if p.kind = 1 then insertF l p (findI l p.id)
 else if (itemF l p.id).kind = 0 ∨ ((itemF l p.id).kind = 1 ∧ p.kind ≠ 3 ∧ p.kind ≠ 4) then ([], 11)
 else if p.kind = 6 ∧ (itemF l p.id).gone = false then ([], 12)
 else if p.kind ≠ 6 ∧ (itemF l p.id).gone = true then ([], 16)
 else if p.kind = 2 then wordsF l p (findI l p.id).toNat (itemF l p.id)
 else if p.kind = 3 then (l.set (findI l p.id).toNat { itemF l p.id with num := p.num }, 0)
 else if p.kind = 4 then moveF l p (findI l p.id).toNat
 else if p.kind = 7 then replaceF l p (findI l p.id).toNat (itemF l p.id)
 else (l.set (findI l p.id).toNat { itemF l p.id with gone := p.kind == 5 }, 0)
def zeroP : Patch := ⟨0, [], [], [], [], noItem, 0, [], []⟩
def lastSib (l : List Item) (par : Str) : Str := l.foldl (fun b y => if y.par == par then y.id else b) []
def allF : List Item → List Patch → Nat → List Item × Int × Int
 | l, [], _ => (l, -1, 0)
 | l, p :: r, i => if (applyF l p).2 = 0 then allF (applyF l p).1 r (i + 1) else ([], i, (applyF l p).2)

end Go.Proofs.YtecnlfaholmpoaaGreat
