/- Words for memory and data: strings, items, patches as plain data; a slice that reads as a list of multi-cell elements. code.isName, code.proper and what they call: which items are valid apart from their place. code.isName and code.proper. code.proper. slices.Index and slices.Contains at strings. Memory: what a visitor may change; a map from strings that the call made; a slice cut by s[:k:k]. -/
import Derived.Test.YtecnlfaholmpoaaGreatRows
import Derived.WalkKit
import Derived.WalkSpells
import Derived.WalkLawsBesides
import Derived.Lib.Hide
import Derived.Deep.DeepMust
import Derived.Deep.DeepFit
set_option linter.unusedVariables false
set_option linter.unusedSimpArgs false
namespace Go.Proofs.YtecnlfaholmpoaaGreat
open Go.RowKit
theorem sia {α : Type} {l : List α} {i : Nat} {a : α} : l.toArray.setIfInBounds i a = (l.set i a).toArray := List.setIfInBounds_toArray ..
theorem sc0 {α : Type} {x a : α} {l : List α} : (x :: l).set 0 a = a :: l := rfl
theorem scs {α : Type} {x a : α} {l : List α} {i : Nat} : (x :: l).set (i + 1) a = x :: l.set i a := rfl
abbrev Str := List UInt8
abbrev vs (l : Str) : Value := .string ⟨l.toArray⟩
structure Item where
 kind : Int
 id : Str
 par : Str
 num : Str
 no : Str
 so : Str
 gone : Bool
abbrev Item.cells (x : Item) : List Value := [.int .i64 x.kind, vs x.id, vs x.par, vs x.num, vs x.no, vs x.so, .bool x.gone]
abbrev Item.agg (x : Item) : Value := .agg #[.int .i64 x.kind, vs x.id, vs x.par, vs x.num, vs x.no, vs x.so, .bool x.gone]
/- the elements of a slice, each of s cells -/
def Sl {α : Type} (cs : α → List Value) (s : Nat) (w : World) (A : Option Addr) (l : List α) : Prop :=
 l ≠ [] → ∃ b o, A = some ⟨b, o, none⟩ ∧ b < w.heap.size ∧ ∀ k x, l[k]? = some x → ∀ j v, (cs x)[j]? = some v → w.cell? ⟨b, o + k * s + j, none⟩ = some v
theorem Sl.below {α : Type} {cs : α → List Value} {s : Nat} {w w' : World} {A : Option Addr} {l : List α} (h : Sl cs s w A l) (hb : Below w.heap.size w w') : Sl cs s w' A l := by
 intro hl
 obtain ⟨b, o, hA, hlt, hc⟩ := h hl
 exact ⟨b, o, hA, Nat.lt_of_lt_of_le hlt hb.size, fun k x hx j v hv => (hb.cell (p := ⟨b, _, none⟩) hlt).trans (hc k x hx j v hv)⟩
def RdI (w : World) (A : Option Addr) (l : List Item) : Prop := Sl Item.cells 7 w A l
theorem RdI.below {w w' : World} {A : Option Addr} {l : List Item} (h : RdI w A l) (hb : Below w.heap.size w w') : RdI w' A l := Sl.below h hb
theorem RdI.item {w : World} {A : Option Addr} {l : List Item} (h : RdI w A l) {k : Nat} {x : Item} (hx : l[k]? = some x) :
 ∃ b o, A = some ⟨b, o, none⟩ ∧ b < w.heap.size ∧ w.cell? ⟨b, o + k * 7, none⟩ = some (.int .i64 x.kind) ∧ w.cell? ⟨b, o + k * 7 + 1, none⟩ = some (vs x.id) ∧ w.cell? ⟨b, o + k * 7 + 2, none⟩ = some (vs x.par) ∧
  w.cell? ⟨b, o + k * 7 + 3, none⟩ = some (vs x.num) ∧ w.cell? ⟨b, o + k * 7 + 4, none⟩ = some (vs x.no) ∧ w.cell? ⟨b, o + k * 7 + 5, none⟩ = some (vs x.so) ∧ w.cell? ⟨b, o + k * 7 + 6, none⟩ = some (.bool x.gone) := by
 obtain ⟨b, o, hA, hlt, hc⟩ := h (by rintro rfl; simp at hx)
 have := hc k x hx
 exact ⟨b, o, hA, hlt, this 0 _ rfl, this 1 _ rfl, this 2 _ rfl, this 3 _ rfl, this 4 _ rfl, this 5 _ rfl, this 6 _ rfl⟩
theorem get_of_lt {α : Type} {l : List α} {k : Nat} (h : k < l.length) : ∃ x, l[k]? = some x := ⟨l[k], List.getElem?_eq_getElem h⟩
theorem findIdx_some {α : Type} {l : List α} {p : α → Bool} {k : Nat} {x : α} (hx : l[k]? = some x) (hp : p x = true) (hno : ∀ (j : Nat) y, l[j]? = some y → j < k → p y = false) : l.findIdx? p = some k := by
 obtain ⟨hk, rfl⟩ := List.getElem?_eq_some_iff.1 hx
 rw [List.findIdx?_eq_some_iff_getElem]
 refine ⟨hk, hp, fun j hj => ?_⟩
 rw [hno j l[j] (List.getElem?_eq_getElem (by omega)) hj]; simp
theorem findIdx_none {α : Type} {l : List α} {p : α → Bool} (hno : ∀ (j : Nat) y, l[j]? = some y → j < l.length → p y = false) : l.findIdx? p = none := by
 rw [List.findIdx?_eq_none_iff]
 intro x hx
 obtain ⟨j, hj⟩ := List.mem_iff_getElem?.1 hx
 exact hno j x hj (List.getElem?_eq_some_iff.1 hj).1
theorem below_succ {α : Type} {l : List α} {p : α → Bool} {k : Nat} {x : α} (hx : l[k]? = some x) (hp : p x = false) (hno : ∀ (j : Nat) y, l[j]? = some y → j < k → p y = false) : ∀ (j : Nat) y, l[j]? = some y → j < k + 1 → p y = false := by
 intro j y hy hj
 rcases Nat.lt_succ_iff_lt_or_eq.1 hj with h | rfl
 · exact hno j y hy h
 · rw [hx] at hy; cases hy; exact hp
def idx (o : Option Nat) : Int := o.elim (-1) fun i => (i : Int)
theorem bcell {W w1 : World} (hb : Below W.heap.size W w1) : (∀ b o, b < W.heap.size → w1.cell? ⟨b, o, none⟩ = W.cell? ⟨b, o, none⟩) ∧ (∀ b o, b < W.heap.size → w1.frozen? ⟨b, o, none⟩ = W.frozen? ⟨b, o, none⟩) :=
 ⟨fun b o h => hb.cell (p := ⟨b, o, none⟩) h, fun b o h => hb.frozen (p := ⟨b, o, none⟩) h⟩
theorem ret_bool {a b : Bool} (h : a = b) : Ending.returned (.bool a) = .returned (.bool b) := by rw [h]
theorem enters {P : Program} {f : FuncId} {fn : Func} {c : Code} (hf : P.funcs[f]? = some fn) (hname : (fn.name == "runtime.NumGoroutine") = false) (hb : fn.body = some c) (us : Array Value) (w : World) :
 (callFunc f us).run P w = .ok (.enter f us) w := by
 have hname' : ¬ fn.name = "runtime.NumGoroutine" := by simpa using hname
 simp [callFunc, hf, hname', hb]
end Go.Proofs.YtecnlfaholmpoaaGreat
set_option maxRecDepth 20000
set_option maxHeartbeats 400000
namespace Go.Proofs.YtecnlfaholmpoaaGreat
open Go.RowKit
def isDigitB (b : UInt8) : Bool := 48 ≤ b.toNat && b.toNat ≤ 57
def isLowB (b : UInt8) : Bool := 97 ≤ b.toNat && b.toNat ≤ 122
def isUpB (b : UInt8) : Bool := 65 ≤ b.toNat && b.toNat ≤ 90
def numB (b : UInt8) : Bool := isDigitB b || isLowB b
def runeBad (c : Int) : Bool := !((decide (48 ≤ c) && decide (c ≤ 57)) || (decide (97 ≤ c) && decide (c ≤ 122)))
theorem proper1_any (c : Int) (w : World) :
 Calls Tryz.prog 129 #[.int .i32 c] w fun e w' => e = .returned (.bool (runeBad c)) ∧ w' = w := by
 by_cases h1 : 48 ≤ c <;> by_cases h2 : c ≤ 57 <;> by_cases h3 : 97 ≤ c <;> by_cases h4 : c ≤ 122
 all_goals
  go_enter Tryz.func129, Tryz.ntmps129
  go_wp2
  try go_ret
  try exact ⟨ret_bool (by simp [runeBad, h1, h2, h3, h4]), rfl⟩
theorem rune_of_byte (b : UInt8) (h : b.toNat < 128) : runeBad (b.toNat : Int) = !numB b := by
 unfold runeBad numB isDigitB isLowB
 congr 1
 rw [Bool.eq_iff_iff]; simp; omega
theorem rune_high (c : Int) (h : 128 ≤ c) : runeBad c = true := by
 unfold runeBad
 simp; omega
theorem indexFunc_str (s : Str) (g : Nat) (p : Int → Bool) (q : UInt8 → Bool) (w : World) (hs : s.length ≤ maxLen)
 (hcf : ∀ us W, (callFunc g us).run Tryz.prog W = .ok (.enter g us) W)
 (hg : ∀ c W, Calls Tryz.prog g #[.int .i32 c] W fun e w'' => e = .returned (.bool (p c)) ∧ w'' = W)
 (hq : ∀ b : UInt8, b.toNat < 128 → p b.toNat = q b) (hhi : ∀ c, 128 ≤ c → p c = true) (hqh : ∀ b : UInt8, 128 ≤ b.toNat → q b = true) :
 Calls Tryz.prog 166 #[vs s, .func (.func g) #[] #[], .bool true] w fun e w' => e = .returned (.int .i64 (idx (s.findIdx? q))) ∧ Below w.heap.size w w' := by
 have HG := Lib.hid hg; clear hg
 have HQ := Lib.hid hq; clear hq
 have HH := Lib.hid hhi; clear hhi
 have HQH := Lib.hid hqh; clear hqh
 unfold maxLen at hs
 go_enter Tryz.func166, Tryz.ntmps166
 go_wp2
 go_loopw [7] (fun _ wr => ∃ k : Nat, k ≤ s.length ∧ wr = w.iter ⟨s.toArray⟩ k ∧ ∀ j x, s[j]? = some x → j < k → q x = false) (fun _ wr => s.length - wr.iterPos w.heap.size)
 case atStart => exact ⟨0, Nat.zero_le _, rfl, fun _ _ _ h => absurd h (by omega)⟩
 case round =>
  obtain ⟨k, hk, rfl, hno⟩ := hrel
  have Hno := Lib.hid hno; clear hno
  by_cases hlt : k < s.length
  · have hsz : k < (⟨s.toArray⟩ : ByteArray).size := by simpa [ByteArray.size] using hlt
    obtain ⟨x, hx⟩ := get_of_lt hlt
    have hxx : (⟨s.toArray⟩ : ByteArray)[k] = x := by
     obtain ⟨_, h⟩ := List.getElem?_eq_some_iff.1 hx
     exact h
    by_cases ha : x.toNat < 128
    · have hn := fun ty => run_next_ascii (P := Tryz.prog) w ⟨s.toArray⟩ k ty hsz (by rw [hxx]; exact ha)
      rw [hxx] at hn
      have Hx := Lib.hid hx; clear hx
      have hxx := Lib.hid hxx; clear hxx
      have hpq := HQ.out x ha
      cases hqx : q x with
      | true =>
        have Hpx : Hid (p x.toNat = true) := by rw [← hqx]; exact hpq
        have Hqx := Lib.hid hqx; clear hqx hpq
        go_wp2_with fail
        refine (HG.out _ _).mono ?_
        rintro e w1 ⟨rfl, rfl⟩
        rw [Hpx.out]
        go_wp2_with fail
        go_ret
        exact ⟨by rw [findIdx_some Hx.out Hqx.out Hno.out]; rfl, (Below.refl _ _).alloc (Nat.le_refl _) _⟩
      | false =>
        have Hpx : Hid (p x.toNat = false) := by rw [← hqx]; exact hpq
        have Hqx := Lib.hid hqx; clear hqx hpq
        go_wp2_with fail
        refine (HG.out _ _).mono ?_
        rintro e w1 ⟨rfl, rfl⟩
        rw [Hpx.out]
        go_wp2_with fail
        go_roundw
        case rel => exact ⟨k + 1, by omega, rfl, below_succ Hx.out Hqx.out Hno.out⟩
        case measure => simp; omega
    · have hn := fun ty => run_next_any (P := Tryz.prog) w ⟨s.toArray⟩ k ty hsz
      have hd := decode_high ⟨s.toArray⟩ k hsz (by rw [hxx]; omega)
      have Hpx : Hid (p (Utf8.decode ⟨s.toArray⟩ k).1 = true) := HH.out _ (by omega)
      have Hqx := Lib.hid (HQH.out x (by omega))
      have Hx := Lib.hid hx; clear hx
      have hxx := Lib.hid hxx; clear hxx
      generalize (Utf8.decode ⟨s.toArray⟩ k).1 = r at *
      generalize (Utf8.decode ⟨s.toArray⟩ k).2 = m at *
      go_wp2_with fail
      refine (HG.out _ _).mono ?_
      rintro e w1 ⟨rfl, rfl⟩
      rw [Hpx.out]
      go_wp2_with fail
      go_ret
      exact ⟨by rw [findIdx_some Hx.out Hqx.out Hno.out]; rfl, (Below.refl _ _).alloc (Nat.le_refl _) _⟩
  · have hkk : k = s.length := by omega
    subst hkk
    have hn := fun ty => run_next_end (P := Tryz.prog) w ⟨s.toArray⟩ s.length ty (by simp [ByteArray.size])
    go_wp2_with fail
    go_ret
    exact ⟨by rw [findIdx_none Hno.out]; rfl, (Below.refl _ _).alloc (Nat.le_refl _) _⟩
theorem idx_nonneg (o : Option Nat) : decide (0 ≤ idx o) = o.isSome := by
 cases o <;> simp [idx]
theorem containsFunc_num (s : Str) (w : World) (hs : s.length ≤ maxLen) :
 Calls Tryz.prog 128 #[vs s, .func (.func 129) #[] #[]] w fun e w' => e = .returned (.bool (s.any fun b => !numB b)) ∧ Below w.heap.size w w' := by
 have h1 := indexFunc_str s 129 runeBad (fun b => !numB b) w hs (enters Tryz.func129 (by kernel_rfl) rfl) proper1_any rune_of_byte rune_high
  (fun b hb => by simp [numB, isDigitB, isLowB]; omega)
 have H1 := Lib.hid h1; clear h1
 go_enter Tryz.func128, Tryz.ntmps128
 go_wp2_with (first | (go_at_call 166; refine H1.out.mono ?_; rintro e w1 ⟨rfl, hb1⟩) | go_in)
 go_ret
 refine ⟨ret_bool ?_, hb1⟩
 rw [idx_nonneg, List.findIdx?_isSome]
end Go.Proofs.YtecnlfaholmpoaaGreat
set_option maxRecDepth 20000
set_option maxHeartbeats 1000000
namespace Go.Proofs.YtecnlfaholmpoaaGreat
open Go.RowKit
def letB (c : UInt8) : Bool := isLowB c || isUpB c
def digB (c : UInt8) : Bool := isDigitB c || c.toNat == 95
def nameOk (i : Nat) (c : UInt8) : Bool := letB c || (i != 0 && digB c)
def isNameB (s : Str) : Bool := (List.range s.length).all (fun i => nameOk i (s.getD i 0)) && s != [] && decide (s.length ≤ 24)
theorem isName_no {s : Str} {k : Nat} {x : UInt8} (hx : s[k]? = some x) (h : nameOk k x = false) : isNameB s = false := by
 obtain ⟨hk, rfl⟩ := List.getElem?_eq_some_iff.1 hx
 unfold isNameB
 have : (List.range s.length).all (fun i => nameOk i (s.getD i 0)) = false := by
  rw [List.all_eq_false]
  exact ⟨k, by simpa using hk, by simp [List.getD_eq_getElem?_getD, List.getElem?_eq_getElem hk, h]⟩
 rw [this]; simp
theorem isName_end {s : Str} (h : ∀ (j : Nat) y, s[j]? = some y → j < s.length → nameOk j y = true) : isNameB s = (s != [] && decide (s.length ≤ 24)) := by
 unfold isNameB
 have : (List.range s.length).all (fun i => nameOk i (s.getD i 0)) = true := by
  rw [List.all_eq_true]
  intro i hi
  have hi' : i < s.length := by simpa using hi
  have := h i s[i] (List.getElem?_eq_getElem hi') hi'
  simpa [List.getD_eq_getElem?_getD, List.getElem?_eq_getElem hi'] using this
 rw [this]; simp
theorem up_succ {α : Type} {l : List α} {p : Nat → α → Bool} {k : Nat} {x : α} (hx : l[k]? = some x) (hp : p k x = true) (hno : ∀ (j : Nat) y, l[j]? = some y → j < k → p j y = true) : ∀ (j : Nat) y, l[j]? = some y → j < k + 1 → p j y = true := by
 intro j y hy hj
 rcases Nat.lt_succ_iff_lt_or_eq.1 hj with h | rfl
 · exact hno j y hy h
 · rw [hx] at hy; cases hy; exact hp
theorem byte_classes (n : Nat) : ((97 ≤ n ∧ n ≤ 122) ∨ (65 ≤ n ∧ n ≤ 90)) ∨ ((48 ≤ n ∧ n ≤ 57) ∨ (95 ≤ n ∧ n ≤ 95)) ∨ (n ≤ 47 ∨ (58 ≤ n ∧ n ≤ 64) ∨ (91 ≤ n ∧ n ≤ 94) ∨ (96 ≤ n ∧ n ≤ 96) ∨ 123 ≤ n) := by omega
theorem nameOk_let {k : Nat} {x : UInt8} (h : (97 ≤ x.toNat ∧ x.toNat ≤ 122) ∨ (65 ≤ x.toNat ∧ x.toNat ≤ 90)) : nameOk k x = true := by
 simp [nameOk, letB, isLowB, isUpB]; omega
theorem nameOk_dig {k : Nat} {x : UInt8} (h : (48 ≤ x.toNat ∧ x.toNat ≤ 57) ∨ (95 ≤ x.toNat ∧ x.toNat ≤ 95)) : nameOk k x = (k != 0) := by
 have h1 : letB x = false := by simp [letB, isLowB, isUpB]; omega
 have h2 : digB x = true := by simp [digB, isDigitB]; omega
 simp [nameOk, h1, h2]
theorem nameOk_other {k : Nat} {x : UInt8} (h : x.toNat ≤ 47 ∨ (58 ≤ x.toNat ∧ x.toNat ≤ 64) ∨ (91 ≤ x.toNat ∧ x.toNat ≤ 94) ∨ (96 ≤ x.toNat ∧ x.toNat ≤ 96) ∨ 123 ≤ x.toNat) : nameOk k x = false := by
 have h1 : letB x = false := by simp [letB, isLowB, isUpB]; omega
 have h2 : digB x = false := by simp [digB, isDigitB]; omega
 simp [nameOk, h1, h2]
theorem isName_any (s : Str) (w : World) (hs : s.length ≤ maxLen) :
 Calls Tryz.prog 130 #[vs s] w fun e w' => e = .returned (.bool (isNameB s)) ∧ w' = w := by
 unfold maxLen at hs
 go_enter Tryz.func130, Tryz.ntmps130
 go_wp2
 go_loop [9] (fun i => ∃ k : Nat, k ≤ s.length ∧ i = .int .i64 k ∧ ∀ j x, s[j]? = some x → j < k → nameOk j x = true) (fun i => s.length - (intOf i).toNat)
 case atStart => exact ⟨0, Nat.zero_le _, rfl, fun _ _ _ h => absurd h (by omega)⟩
 case round =>
  obtain ⟨k, hk, rfl, hno⟩ := hrel
  have Hno := Lib.hid hno; clear hno
  by_cases hlt : k < s.length
  · obtain ⟨x, hx⟩ := get_of_lt hlt
    have hsz : k < (⟨s.toArray⟩ : ByteArray).size := by simpa [ByteArray.size] using hlt
    have hxx : (⟨s.toArray⟩ : ByteArray)[k] = x := by
     obtain ⟨_, h⟩ := List.getElem?_eq_some_iff.1 hx
     exact h
    have Hx := Lib.hid hx; clear hx
    have hbd : x.toNat < 256 := x.toNat_lt
    rcases byte_classes x.toNat with h | h | h
    · have Hn := Lib.hid (nameOk_let (k := k) h)
      have he : ((x.toNat : Int) == 95) = false := by simp; omega
      rcases h with ⟨ha, hb⟩ | ⟨ha, hb⟩
      all_goals
       go_wp2_with fail
       exact ⟨⟨k + 1, by omega, by go_num, up_succ Hx.out Hn.out Hno.out⟩, by simp [intOf]; omega⟩
    · have Hn := Lib.hid (nameOk_dig (k := k) h)
      cases hk0 : ((k : Int) == 0) with
      | true =>
        have Hk := Lib.hid (show nameOk k x = false by rw [Hn.out]; simpa using hk0)
        rcases h with ⟨ha, hb⟩ | ⟨ha, hb⟩
        · go_wp2_with fail
          go_ret
          exact ⟨ret_bool (isName_no Hx.out Hk.out).symm, rfl⟩
        · have he : ((x.toNat : Int) == 95) = true := by simp; omega
          have d1 : decide ((x.toNat : Int) ≤ 90) = false := by simp; omega
          have d2 : decide ((x.toNat : Int) ≤ 57) = false := by simp; omega
          go_wp2_with fail
          go_ret
          exact ⟨ret_bool (isName_no Hx.out Hk.out).symm, rfl⟩
      | false =>
        have Hk := Lib.hid (show nameOk k x = true by rw [Hn.out]; simpa using hk0)
        rcases h with ⟨ha, hb⟩ | ⟨ha, hb⟩
        · go_wp2_with fail
          exact ⟨⟨k + 1, by omega, by go_num, up_succ Hx.out Hk.out Hno.out⟩, by simp [intOf]; omega⟩
        · have he : ((x.toNat : Int) == 95) = true := by simp; omega
          have d1 : decide ((x.toNat : Int) ≤ 90) = false := by simp; omega
          have d2 : decide ((x.toNat : Int) ≤ 57) = false := by simp; omega
          go_wp2_with fail
          exact ⟨⟨k + 1, by omega, by go_num, up_succ Hx.out Hk.out Hno.out⟩, by simp [intOf]; omega⟩
    · have Hn := Lib.hid (nameOk_other (k := k) h)
      have he : ((x.toNat : Int) == 95) = false := by simp; omega
      cases hk0 : ((k : Int) == 0)
      all_goals
       rcases h with ha | ⟨ha, hb⟩ | ⟨ha, hb⟩ | ⟨ha, hb⟩ | ha
       all_goals
        first
         | (have d1 : decide ((x.toNat : Int) ≤ 57) = false := by simp; omega
            first
             | (have d2 : decide ((x.toNat : Int) ≤ 90) = false := by simp; omega
                first
                 | (have d3 : decide ((x.toNat : Int) ≤ 122) = false := by simp; omega
                    go_wp2_with fail)
                 | go_wp2_with fail)
             | go_wp2_with fail)
         | go_wp2_with fail
        go_ret
        exact ⟨ret_bool (isName_no Hx.out Hn.out).symm, rfl⟩
  · have hkk : k = s.length := by omega
    subst hkk
    by_cases hz : s = []
    · subst hz
      go_wp2_with fail
      go_ret
      exact ⟨by rw [isName_end Hno.out]; rfl, rfl⟩
    · have hz' : s.isEmpty = false := by simpa using hz
      by_cases h24 : s.length ≤ 24
      · go_wp2_with fail
        go_ret
        exact ⟨ret_bool (by rw [isName_end Hno.out, show (s != []) = true by simpa using hz]; first | (simp [h24]; done) | (simp; omega)), rfl⟩
      · go_wp2_with fail
        go_ret
        exact ⟨ret_bool (by rw [isName_end Hno.out, show (s != []) = true by simpa using hz]; first | (simp [h24]; done) | (simp; omega)), rfl⟩
end Go.Proofs.YtecnlfaholmpoaaGreat
set_option maxRecDepth 20000
set_option maxHeartbeats 1000000
namespace Go.Proofs.YtecnlfaholmpoaaGreat
open Go.RowKit
def allNum (s : Str) : Bool := s.all numB
def numOk (s : Str) : Bool := decide ((s.length : Int) ≤ 8) && allNum s
def properB (x : Item) : Bool :=
 if x.kind = 1 then numOk x.num && isNameB x.id && x.no == [] && x.so == [] && !x.gone
 else if x.kind = 2 then numOk x.num && isNameB x.id && decide ((x.no.length : Int) ≤ 400) && decide ((x.so.length : Int) ≤ 400)
 else false
/- the lengths of an item's strings are those of strings -/
structure Item.Short (x : Item) : Prop where
 id : x.id.length ≤ maxLen
 par : x.par.length ≤ maxLen
 num : x.num.length ≤ maxLen
 no : x.no.length ≤ maxLen
 so : x.so.length ≤ maxLen
theorem any_not (l : Str) : (l.any fun b => !numB b) = !allNum l := by
 unfold allNum
 induction l <;> simp_all
theorem proper_any (x : Item) (w : World) (hs : x.Short) :
 Calls Tryz.prog 98 #[x.agg] w fun e w' => e = .returned (.bool (properB x)) ∧ Below w.heap.size w w' := by
 have H1 := fun W => Lib.hid (isName_any x.id W hs.id)
 have H2 := fun W => containsFunc_num x.num W hs.num
 simp only [any_not] at H2
 have H2 := fun W => Lib.hid (H2 W)
 obtain ⟨l1, l2, l3, l4, l5⟩ := hs
 unfold maxLen at l1 l2 l3 l4 l5
 cases hn : isNameB x.id <;> cases hm : allNum x.num
 all_goals
  go_enter Tryz.func98, Tryz.ntmps98
  go_wp2_with (first
   | (go_at_call 128; refine (H2 _).out.mono ?_; rintro e w1 ⟨rfl, hb1⟩; obtain ⟨hc, hf⟩ := bcell hb1)
   | (go_at_call 130; refine (H1 _).out.mono ?_; rintro e w1 ⟨rfl, rfl⟩))
  all_goals
   go_ret
   refine ⟨ret_bool ?_, ?_⟩
   · clear H1 H2
     simp_all [properB, numOk]
     try omega
   · first
       | exact (Below.refl _ _).alloc (Nat.le_refl _) _
       | exact ((Below.refl _ _).alloc (Nat.le_refl _) _).trans (hb1.mono (by simp))
end Go.Proofs.YtecnlfaholmpoaaGreat
set_option maxRecDepth 20000
set_option maxHeartbeats 400000
namespace Go.Proofs.YtecnlfaholmpoaaGreat
open Go.RowKit
def RdS (w : World) (A : Option Addr) (l : List Str) : Prop := Sl (fun s => [vs s]) 1 w A l
theorem RdS.below {w w' : World} {A : Option Addr} {l : List Str} (h : RdS w A l) (hb : Below w.heap.size w w') : RdS w' A l := Sl.below h hb
theorem RdS.item {w : World} {A : Option Addr} {l : List Str} (h : RdS w A l) {k : Nat} {x : Str} (hx : l[k]? = some x) :
 ∃ b o, A = some ⟨b, o, none⟩ ∧ b < w.heap.size ∧ w.cell? ⟨b, o + k, none⟩ = some (vs x) := by
 obtain ⟨b, o, hA, hlt, hc⟩ := h (by rintro rfl; simp at hx)
 have := hc k x hx 0 _ rfl
 exact ⟨b, o, hA, hlt, by simpa using this⟩
def hasS (l : List Str) (s : Str) : Bool := l.any fun x => s == x
def ixS (l : List Str) (s : Str) : Option Nat := l.findIdx? fun x => s == x
theorem indexS_any (l : List Str) (A : Option Addr) (c : Nat) (s : Str) (w : World) (hr : RdS w A l) (hl : l.length ≤ maxLen) :
 Calls Tryz.prog 99 #[.slice A l.length c, vs s] w fun e w' => e = .returned (.int .i64 (idx (ixS l s))) ∧ w = w' := by
 unfold maxLen at hl
 go_enter Tryz.func99, Tryz.ntmps99
 go_wp2
 go_loop [8] (fun i => ∃ k : Nat, k ≤ l.length ∧ i = .int .i64 k ∧ ∀ (j : Nat) x, l[j]? = some x → j < k → (s == x) = false) (fun i => l.length - (intOf i).toNat)
 case atStart => exact ⟨0, Nat.zero_le _, rfl, fun _ _ _ h => absurd h (by omega)⟩
 case round =>
  obtain ⟨k, hk, rfl, hno⟩ := hrel
  have Hno := Lib.hid hno; clear hno
  by_cases hlt : k < l.length
  · obtain ⟨x, hx⟩ := get_of_lt hlt
    obtain ⟨b, o, rfl, hbs, c0⟩ := hr.item hx
    have Hx := Lib.hid hx
    clear hr hx
    cases hp : (s == x) with
    | true =>
      have Hp := Lib.hid hp
      go_wp2_with fail
      go_ret
      exact ⟨by unfold ixS; rw [findIdx_some Hx.out Hp.out Hno.out]; rfl, rfl⟩
    | false =>
      have Hp := Lib.hid hp
      go_wp2_with fail
      exact ⟨⟨k + 1, by omega, by go_num, below_succ (p := fun x => s == x) Hx.out Hp.out Hno.out⟩, by simp [intOf]; omega⟩
  · have : k = l.length := by omega
    subst this
    go_wp2_with fail
    go_ret
    exact ⟨by unfold ixS; rw [findIdx_none Hno.out]; rfl, rfl⟩
theorem idx_nonneg' (o : Option Nat) : decide (0 ≤ idx o) = o.isSome := by
 cases o <;> simp [idx]
theorem containsS_any (l : List Str) (A : Option Addr) (c : Nat) (s : Str) (w : World) (hr : RdS w A l) (hl : l.length ≤ maxLen) :
 Calls Tryz.prog 113 #[.slice A l.length c, vs s] w fun e w' => e = .returned (.bool (hasS l s)) ∧ w = w' := by
 have H1 := Lib.hid (indexS_any l A c s w hr hl)
 go_enter Tryz.func113, Tryz.ntmps113
 go_wp2_with (go_at_call 99; refine H1.out.mono ?_; rintro e w1 ⟨rfl, rfl⟩)
 go_ret
 refine ⟨ret_bool ?_, rfl⟩
 rw [idx_nonneg']; unfold ixS hasS; rw [List.findIdx?_isSome]
end Go.Proofs.YtecnlfaholmpoaaGreat
namespace Go.Proofs.YtecnlfaholmpoaaGreat
open Go.RowKit
/- w' is w with new blocks, and with changes in the blocks F alone -/
structure VEff (F : List Nat) (w w' : World) : Prop where
 os : w'.os = w.os
 tape : w'.tape = w.tape
 output : w'.output = w.output
 size : w.heap.size ≤ w'.heap.size
 block : ∀ k, k < w.heap.size → k ∉ F → w'.heap[k]? = w.heap[k]?
theorem VEff.refl (F : List Nat) (w : World) : VEff F w w := ⟨rfl, rfl, rfl, Nat.le_refl _, fun _ _ _ => rfl⟩
theorem VEff.of_below {F : List Nat} {w w' : World} (h : Below w.heap.size w w') : VEff F w w' := ⟨h.os, h.tape, h.output, h.size, fun k hk _ => h.block k hk⟩
theorem VEff.to_below {w w' : World} (h : VEff [] w w') : Below w.heap.size w w' := ⟨h.os, h.tape, h.output, h.size, fun k hk => h.block k hk (by simp)⟩
theorem VEff.trans {F F' : List Nat} {a b c : World} (h : VEff F a b) (k : VEff F' b c) (hF : ∀ x ∈ F', x ∈ F ∨ a.heap.size ≤ x) : VEff F a c :=
 ⟨k.os.trans h.os, k.tape.trans h.tape, k.output.trans h.output, Nat.le_trans h.size k.size, fun i hi hn => (k.block i (Nat.lt_of_lt_of_le hi h.size) (fun hx => (hF i hx).elim hn (fun h => absurd hi (by omega)))).trans (h.block i hi hn)⟩
theorem cell_of_heap {w w' : World} {b : Nat} (h : w'.heap[b]? = w.heap[b]?) (o : Nat) : w'.cell? ⟨b, o, none⟩ = w.cell? ⟨b, o, none⟩ := World.cell?_of_block (a := ⟨b, o, none⟩) h
theorem Sl.keep {α : Type} {cs : α → List Value} {s : Nat} {w w' : World} {A : Option Addr} {l : List α} (h : Sl cs s w A l) (hs : w.heap.size ≤ w'.heap.size)
 (hk : ∀ b o, A = some ⟨b, o, none⟩ → b < w.heap.size → w'.heap[b]? = w.heap[b]?) : Sl cs s w' A l := by
 intro hl
 obtain ⟨b, o, hA, hlt, hc⟩ := h hl
 exact ⟨b, o, hA, Nat.lt_of_lt_of_le hlt hs, fun k x hx j v hv => (cell_of_heap (hk b o hA hlt) _).trans (hc k x hx j v hv)⟩
theorem Sl.take {α : Type} {cs : α → List Value} {s : Nat} {w : World} {A : Option Addr} {l : List α} (h : Sl cs s w A l) (n : Nat) : Sl cs s w A (l.take n) := by
 intro hl
 have hl' : l ≠ [] := by rintro rfl; simp at hl
 obtain ⟨b, o, hA, hlt, hc⟩ := h hl'
 refine ⟨b, o, hA, hlt, fun k x hx => hc k x ?_⟩
 rw [List.getElem?_take] at hx
 split at hx
 · exact hx
 · cases hx
theorem Sl.nil {α : Type} {cs : α → List Value} {s : Nat} {w : World} {A : Option Addr} : Sl cs s w A [] := fun h => absurd rfl h
/- s[:k:k] -/
theorem run_cut {P : Program} {t e : TypeId} (ht : P.underlying t = some (.slice e)) (he : ∃ i, P.info? e = some i) (O : Option Addr) (n c k : Nat) (z : Int) (hz : z = k) (hk : k ≤ c) (W : World) :
 (Instr.slice t (.slice O n c) none (some (.int .i64 z)) (some (.int .i64 z))).run P W = .ok (.slice O k k) W := by
 subst hz
 obtain ⟨i, hi⟩ := he
 have h1 : (0 : Int) ≤ k ∧ (k : Int) ≤ c := by omega
 have h2 : (0 : Int) ≤ k ∧ (k : Int) ≤ k := by omega
 have b1 : ∀ code, (Instr.sliceBound (.int .i64 k) c code).run P W = .ok k W := fun code => by
  simp [Instr.sliceBound, asIntOf, hk]
 have b2 : ∀ code, (Instr.sliceBound (.int .i64 k) k code).run P W = .ok k W := fun code => by
  simp [Instr.sliceBound, asIntOf]
 simp [Instr.slice, run_underlying ht, Instr.sliceBounds, b1, b2, sizeOf, typeInfo, hi, Addr.add]
theorem heap_new_at {w : World} {o : Obj} {k : Nat} (h : k = w.heap.size) : (w.alloc o).heap[k]? = some o := by
 subst h; exact heap_alloc_new w o
theorem heap_old_at {w : World} {o : Obj} {k : Nat} {x : Option Obj} (h : k < w.heap.size) (hx : w.heap[k]? = x) : (w.alloc o).heap[k]? = x := (Below.heap_alloc w o k h).trans hx
/- a map from strings -/
def World.putObj (w : World) (b : Nat) (o : Obj) : World := { w with heap := w.heap.setIfInBounds b o }
theorem heap_putObj_same {w : World} {b : Nat} {o : Obj} (h : b < w.heap.size) : (World.putObj w b o).heap[b]? = some o := by
 simp [World.putObj, Array.getElem?_setIfInBounds, h]
theorem heap_putObj_other {w : World} {b k : Nat} {o : Obj} (h : k ≠ b) : (World.putObj w b o).heap[k]? = w.heap[k]? := by
 simp only [World.putObj, Array.getElem?_setIfInBounds]
 rw [if_neg (fun e => h e.symm)]
@[simp] theorem size_putObj {w : World} {b : Nat} {o : Obj} : (World.putObj w b o).heap.size = w.heap.size := by simp [World.putObj]
def ents (kv : List (Str × Value)) : List (Value × Value) := kv.map fun x => (vs x.1, x.2)
structure SMap (w : World) (b : Nat) (kv : List (Str × Value)) : Prop where
 is : ∃ es clock, w.heap[b]? = some (.map es clock) ∧ es.toList.map (fun e => (e.key, e.val)) = ents kv
theorem SMap.lt {w : World} {b : Nat} {kv : List (Str × Value)} (h : SMap w b kv) : b < w.heap.size := by
 obtain ⟨es, clock, hh, _⟩ := h.is
 rcases Nat.lt_or_ge b w.heap.size with h' | h'
 · exact h'
 · rw [Array.getElem?_eq_none h'] at hh; cases hh
theorem SMap.keep {w w' : World} {b : Nat} {kv : List (Str × Value)} (h : SMap w b kv) (hk : w'.heap[b]? = w.heap[b]?) : SMap w' b kv := by
 obtain ⟨es, clock, hh, he⟩ := h.is
 exact ⟨es, clock, hk.trans hh, he⟩
theorem str_inj {a b : Str} : ((⟨a.toArray⟩ : ByteArray) == ⟨b.toArray⟩) = (a == b) := by
 show ((a.toArray) == b.toArray) = _
 simp
theorem findNow_ents (k : Str) : ∀ (es : List MapEntry) (kv : List (Str × Value)) (i : Nat), es.map (fun e => (e.key, e.val)) = ents kv →
 Instr.findNow .string (vs k) es i = some ((kv.findIdx? fun x => k == x.1).map fun j => (i + j, ((kv[j]?).map (·.2)).getD undef))
 | [], kv, i, h => by
   cases kv with
   | nil => simp [Instr.findNow]
   | cons a r => simp [ents] at h
 | e :: es, kv, i, h => by
   cases kv with
   | nil => simp [ents] at h
   | cons a r =>
     simp only [ents, List.map_cons, List.cons.injEq, Prod.mk.injEq] at h
     obtain ⟨⟨h1, h2⟩, h3⟩ := h
     have ih := findNow_ents k es r (i + 1) h3
     simp only [Instr.findNow, h1, Instr.sameNow, str_inj]
     cases hk : (k == a.1) with
     | true => simp [List.findIdx?_cons, hk, h2]
     | false =>
       simp only [ih, List.findIdx?_cons, hk]
       cases hf : r.findIdx? fun x => k == x.1 with
       | none => simp
       | some j => simp; omega
def mget (kv : List (Str × Value)) (k : Str) : Option Value := (kv.find? fun x => k == x.1).map (·.2)
theorem mget_idx (kv : List (Str × Value)) (k : Str) : mget kv k = (kv.findIdx? fun x => k == x.1).map fun j => ((kv[j]?).map (·.2)).getD undef := by
 unfold mget
 induction kv with
 | nil => simp
 | cons a r ih =>
   rw [List.findIdx?_cons, List.find?_cons]
   cases hk : (k == a.1) with
   | true => simp
   | false =>
     simp only [ih]
     cases hf : r.findIdx? fun x => k == x.1 with
     | none => simp
     | some j => simp
theorem run_checkKey {P : Program} {kt : TypeId} (hk : P.underlying kt = some .string) (e : Bool) (k : Str) (W : World) : (Instr.checkKey e 10000 kt (vs k)).run P W = .ok () W := by
 show (Instr.checkKey e (9999 + 1) kt (vs k)).run P W = .ok () W
 unfold Instr.checkKey
 simp [run_underlying hk]
theorem run_mlookup {P : Program} {t kt et : TypeId} (ht : P.underlying t = some (.map kt et)) (hk : P.underlying kt = some .string) {W : World} {b : Nat} {kv : List (Str × Value)} (hm : SMap W b kv) {z : Value}
 (hz : (zeroValue et).run P W = .ok z W) (k : Str) :
 (Instr.lookup t (.map (some b)) (vs k) false).run P W = .ok ((mget kv k).getD z) W := by
 obtain ⟨es, clock, hh, he⟩ := hm.is
 have hf := findNow_ents k es.toList kv 0 he
 rw [mget_idx]
 cases hx : kv.findIdx? fun x => k == x.1 with
 | none =>
   rw [hx] at hf
   simp only [Option.map_none] at hf
   simp [Instr.lookup, run_underlying ht, getObj, Sem.run, hh, run_checkKey hk, run_underlying hk, Instr.findKey, hf, hz]
 | some j =>
   rw [hx] at hf
   simp only [Option.map_some] at hf
   simp [Instr.lookup, run_underlying ht, getObj, Sem.run, hh, run_checkKey hk, run_underlying hk, Instr.findKey, hf]
theorem run_mput_new {P : Program} {t kt et : TypeId} (ht : P.underlying t = some (.map kt et)) (hk : P.underlying kt = some .string) {W : World} {b : Nat} {kv : List (Str × Value)} (hm : SMap W b kv) (k : Str) (v : Value)
 (hnew : mget kv k = none) : ∃ W', (Instr.mapUpdate t (.map (some b)) (vs k) v).run P W = .ok () W' ∧ SMap W' b (kv ++ [(k, v)]) ∧ VEff [b] W W' := by
 obtain ⟨es, clock, hh, he⟩ := hm.is
 have hf := findNow_ents k es.toList kv 0 he
 have hx : (kv.findIdx? fun x => k == x.1) = none := by
  rw [mget_idx] at hnew
  simpa using hnew
 rw [hx] at hf
 simp only [Option.map_none] at hf
 refine ⟨World.putObj W b (.map (es.push { key := vs k, val := v, born := clock }) (clock + 1)), ?_, ⟨_, _, heap_putObj_same hm.lt, ?_⟩, ⟨rfl, rfl, rfl, by simp, fun i _ hi => heap_putObj_other (by simpa using hi)⟩⟩
 · simp [Instr.mapUpdate, run_underlying ht, getObj, setObj, Sem.run, hh, run_checkKey hk, run_underlying hk, Instr.findKey, hf]
   rfl
 · simp only [Array.toList_push, List.map_append, he]
   simp [ents]
theorem SMap.made (w : World) (c : Nat) : SMap (w.alloc (.map #[] c)) w.heap.size [] := ⟨#[], c, heap_alloc_new w _, by simp [ents]⟩
end Go.Proofs.YtecnlfaholmpoaaGreat
