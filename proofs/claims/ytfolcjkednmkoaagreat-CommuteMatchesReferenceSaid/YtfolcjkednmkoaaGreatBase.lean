/- Words for memory and data: strings, items, patches as plain data; a slice that reads as a list of multi-cell elements. -/
import Derived.Test.YtfolcjkednmkoaaGreatRows
import Derived.WalkKit
import Derived.WalkSpells
import Derived.WalkLawsBesides
import Derived.Lib.Hide
import Derived.Deep.DeepMust
import Derived.Deep.DeepFit
set_option linter.unusedVariables false
set_option linter.unusedSimpArgs false
namespace Go.Proofs.YtfolcjkednmkoaaGreat
open Go.RowKit
theorem sia {α : Type} {l : List α} {i : Nat} {a : α} : l.toArray.setIfInBounds i a = (l.set i a).toArray := List.setIfInBounds_toArray ..
theorem sc0 {α : Type} {x a : α} {l : List α} : (x :: l).set 0 a = a :: l := rfl
theorem scs {α : Type} {x a : α} {l : List α} {i : Nat} : (x :: l).set (i + 1) a = x :: l.set i a := rfl
abbrev Str := List UInt8
abbrev vs (l : Str) : Value := .string ⟨l.toArray⟩
structure Item where
 kind : Int
 id : Str
 par : Str
 num : Str
 no : Str
 so : Str
 gone : Bool
abbrev Item.cells (x : Item) : List Value := [.int .i64 x.kind, vs x.id, vs x.par, vs x.num, vs x.no, vs x.so, .bool x.gone]
abbrev Item.agg (x : Item) : Value := .agg #[.int .i64 x.kind, vs x.id, vs x.par, vs x.num, vs x.no, vs x.so, .bool x.gone]
/- the elements of a slice, each of s cells -/
def Sl {α : Type} (cs : α → List Value) (s : Nat) (w : World) (A : Option Addr) (l : List α) : Prop :=
 l ≠ [] → ∃ b o, A = some ⟨b, o, none⟩ ∧ b < w.heap.size ∧ ∀ k x, l[k]? = some x → ∀ j v, (cs x)[j]? = some v → w.cell? ⟨b, o + k * s + j, none⟩ = some v
theorem Sl.below {α : Type} {cs : α → List Value} {s : Nat} {w w' : World} {A : Option Addr} {l : List α} (h : Sl cs s w A l) (hb : Below w.heap.size w w') : Sl cs s w' A l := by
 intro hl
 obtain ⟨b, o, hA, hlt, hc⟩ := h hl
 exact ⟨b, o, hA, Nat.lt_of_lt_of_le hlt hb.size, fun k x hx j v hv => (hb.cell (p := ⟨b, _, none⟩) hlt).trans (hc k x hx j v hv)⟩
def RdI (w : World) (A : Option Addr) (l : List Item) : Prop := Sl Item.cells 7 w A l
theorem RdI.below {w w' : World} {A : Option Addr} {l : List Item} (h : RdI w A l) (hb : Below w.heap.size w w') : RdI w' A l := Sl.below h hb
theorem RdI.item {w : World} {A : Option Addr} {l : List Item} (h : RdI w A l) {k : Nat} {x : Item} (hx : l[k]? = some x) :
 ∃ b o, A = some ⟨b, o, none⟩ ∧ b < w.heap.size ∧ w.cell? ⟨b, o + k * 7, none⟩ = some (.int .i64 x.kind) ∧ w.cell? ⟨b, o + k * 7 + 1, none⟩ = some (vs x.id) ∧ w.cell? ⟨b, o + k * 7 + 2, none⟩ = some (vs x.par) ∧
  w.cell? ⟨b, o + k * 7 + 3, none⟩ = some (vs x.num) ∧ w.cell? ⟨b, o + k * 7 + 4, none⟩ = some (vs x.no) ∧ w.cell? ⟨b, o + k * 7 + 5, none⟩ = some (vs x.so) ∧ w.cell? ⟨b, o + k * 7 + 6, none⟩ = some (.bool x.gone) := by
 obtain ⟨b, o, hA, hlt, hc⟩ := h (by rintro rfl; simp at hx)
 have := hc k x hx
 exact ⟨b, o, hA, hlt, this 0 _ rfl, this 1 _ rfl, this 2 _ rfl, this 3 _ rfl, this 4 _ rfl, this 5 _ rfl, this 6 _ rfl⟩
theorem get_of_lt {α : Type} {l : List α} {k : Nat} (h : k < l.length) : ∃ x, l[k]? = some x := ⟨l[k], List.getElem?_eq_getElem h⟩
theorem findIdx_some {α : Type} {l : List α} {p : α → Bool} {k : Nat} {x : α} (hx : l[k]? = some x) (hp : p x = true) (hno : ∀ (j : Nat) y, l[j]? = some y → j < k → p y = false) : l.findIdx? p = some k := by
 obtain ⟨hk, rfl⟩ := List.getElem?_eq_some_iff.1 hx
 rw [List.findIdx?_eq_some_iff_getElem]
 refine ⟨hk, hp, fun j hj => ?_⟩
 rw [hno j l[j] (List.getElem?_eq_getElem (by omega)) hj]; simp
theorem findIdx_none {α : Type} {l : List α} {p : α → Bool} (hno : ∀ (j : Nat) y, l[j]? = some y → j < l.length → p y = false) : l.findIdx? p = none := by
 rw [List.findIdx?_eq_none_iff]
 intro x hx
 obtain ⟨j, hj⟩ := List.mem_iff_getElem?.1 hx
 exact hno j x hj (List.getElem?_eq_some_iff.1 hj).1
theorem below_succ {α : Type} {l : List α} {p : α → Bool} {k : Nat} {x : α} (hx : l[k]? = some x) (hp : p x = false) (hno : ∀ (j : Nat) y, l[j]? = some y → j < k → p y = false) : ∀ (j : Nat) y, l[j]? = some y → j < k + 1 → p y = false := by
 intro j y hy hj
 rcases Nat.lt_succ_iff_lt_or_eq.1 hj with h | rfl
 · exact hno j y hy h
 · rw [hx] at hy; cases hy; exact hp
/-- an index as Go has it: -1 for none -/
def idx (o : Option Nat) : Int := o.elim (-1) fun i => (i : Int)
theorem bcell {W w1 : World} (hb : Below W.heap.size W w1) : (∀ b o, b < W.heap.size → w1.cell? ⟨b, o, none⟩ = W.cell? ⟨b, o, none⟩) ∧ (∀ b o, b < W.heap.size → w1.frozen? ⟨b, o, none⟩ = W.frozen? ⟨b, o, none⟩) :=
 ⟨fun b o h => hb.cell (p := ⟨b, o, none⟩) h, fun b o h => hb.frozen (p := ⟨b, o, none⟩) h⟩
theorem ret_bool {a b : Bool} (h : a = b) : Ending.returned (.bool a) = .returned (.bool b) := by rw [h]
theorem enters {P : Program} {f : FuncId} {fn : Func} {c : Code} (hf : P.funcs[f]? = some fn) (hname : (fn.name == "runtime.NumGoroutine") = false) (hb : fn.body = some c) (us : Array Value) (w : World) :
 (callFunc f us).run P w = .ok (.enter f us) w := by
 have hname' : ¬ fn.name = "runtime.NumGoroutine" := by simpa using hname
 simp [callFunc, hf, hname', hb]
end Go.Proofs.YtfolcjkednmkoaaGreat
