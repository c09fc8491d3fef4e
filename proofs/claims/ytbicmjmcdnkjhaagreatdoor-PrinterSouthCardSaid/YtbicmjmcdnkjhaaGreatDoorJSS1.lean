/- Short names. The lexer and the parser as plain functions on lists. Words for memory: strings, tokens, the parser's block. A region that draws its order, whose operations read and whose callees make memory of their own alone: one walk in the order of the text. A row of strings that the call owns; one string put behind. (Of NExc, without the parser.) A writer in memory: the words of a text, and the names among them; what may be changed behind it. -/
import Derived.Lib.Hide
import Derived.Test.YtbicmjmcdnkjhaaGreatDoorRows
import Derived.WalkKit
import Derived.WalkSpells
import Derived.WalkLawsBesides
import Derived.Deep.DeepMust
import Derived.Deep.DeepFit
import Derived.Deep.QuietTactic
import Derived.BigQuiet
import Derived.Laws.AppendOwn
set_option linter.unusedVariables false
set_option linter.unusedSimpArgs false
namespace Go.Proofs.YtbicmjmcdnkjhaaGreatDoor
open Go.RowKit
theorem Hi {p : Prop} (h : p) : Hid p := Lib.hid h
theorem lR (n : Nat) : n ≤ n := Nat.le_refl n
end Go.Proofs.YtbicmjmcdnkjhaaGreatDoor
namespace Go.Proofs.YtbicmjmcdnkjhaaGreatDoor
structure Tok where
 kind : Nat
 text : List UInt8
 n : Nat
 pos : Nat
abbrev Bytes := List UInt8
inductive Tree where
 | mk (op : Nat) (name : List UInt8) (cmp n : Nat) (kids : List Tree)
structure Prov where
 id : List UInt8
 rank : Nat
 kind : Nat
 name : List UInt8
 value : Nat
 cond : Tree
 exc : List (List UInt8)
 beg : Tree
 fin : Tree
 aga : Tree
/- bytes -/
def letterB (c : UInt8) : Bool := (97 ≤ c && c ≤ 122) || (65 ≤ c && c ≤ 90)
def digitB (c : UInt8) : Bool := 48 ≤ c && c ≤ 57
def wordB (c : UInt8) : Bool := letterB c || digitB c || c == 95
def blankB (c : UInt8) : Bool := c == 32 || c == 9 || c == 10
def symB (c : UInt8) : Bool := c == 59 || c == 44 || c == 46 || c == 58 || c == 40 || c == 41 || c == 91 || c == 93 || c == 123 || c == 125 || c == 61
def preB (c : UInt8) : Bool := c == 60 || c == 62
def valN (l : List UInt8) : Nat := l.foldl (fun a c => 10 * a + (c.toNat - 48)) 0
/- the token that begins with c, r behind it: kind, length, value; or an error -/
def lexOne (c : UInt8) (r : List UInt8) : Except Nat (Nat × Nat × Nat) :=
 if letterB c then
  if 24 < (r.takeWhile wordB).length + 1 then .error 2 else .ok (1, (r.takeWhile wordB).length + 1, 0)
 else if digitB c then
  if 7 < (r.takeWhile digitB).length + 1 ∨ ((r.drop (r.takeWhile digitB).length).head?.any wordB) = true then .error 4
  else .ok (2, (r.takeWhile digitB).length + 1, valN (c :: r.takeWhile digitB))
 else if symB c then .ok (3, 1, 0)
 else if preB c then (if r.head? = some 61 then .ok (3, 2, 0) else .ok (3, 1, 0))
 else if c = 33 then (if r.head? = some 61 then .ok (3, 2, 0) else .error 3)
 else .error 3
def scan : Nat → List UInt8 → Nat → List Tok × Option (Nat × Nat)
 | 0, _, _ => ([], none)
 | _ + 1, [], _ => ([], none)
 | f + 1, c :: r, p =>
   if blankB c then scan f r (p + 1)
   else if c = 35 then scan f (r.drop (r.takeWhile (· != 10)).length) (p + 1 + (r.takeWhile (· != 10)).length)
   else match lexOne c r with
    | .error e => ([], some (e, p))
    | .ok (kind, k, v) => (⟨kind, (c :: r).take k, v, p⟩ :: (scan f (r.drop (k - 1)) (p + k)).1, (scan f (r.drop (k - 1)) (p + k)).2)
/- the lexer: an error has its offset -/
def lexF (l : List UInt8) : Except (Nat × Int) (List Tok) :=
 if 20000 < l.length then .error (2, -1)
 else match (scan l.length l 0).1.drop 5000 with
  | t :: _ => .error (2, t.pos)
  | [] => match (scan l.length l 0).2 with
    | some (e, p) => .error (e, p)
    | none => .ok (scan l.length l 0).1
/- the parser: an error has the tokens at which it is -/
abbrev R (α : Type) := Except (Nat × List Tok) (α × List Tok)
def bindR {α β : Type} (p : R α) (f : α → List Tok → R β) : R β := match p with | .error e => .error e | .ok (x, r) => f x r
def failC (l : List Tok) : Nat := match l with | [] => 6 | _ :: _ => 5
def failR {α : Type} (l : List Tok) : R α := .error (failC l, l)
def isWord (t : Tok) : Bool := t.kind == 1 || t.kind == 3
def keyWords : List (List UInt8) := [[99, 111, 110, 115, 116, 105, 116, 117, 116, 105, 111, 110], [97, 99, 116], [114, 101, 103, 117, 108, 97, 116, 105, 111, 110], [98, 121, 108, 97, 119], [100, 101, 102, 105, 110, 101], [97, 110, 115, 119, 101, 114], [105, 115], [105, 102], [110, 111, 116, 119, 105, 116, 104, 115, 116, 97, 110, 100, 105, 110, 103], [102, 114, 111, 109], [117, 110, 116, 105, 108], [97, 103, 97, 105, 110], [111, 114], [97, 110, 100], [110, 111, 116], [116, 114, 117, 101], [102, 97, 108, 115, 101], [97, 108, 119, 97, 121, 115], [110, 101, 118, 101, 114], [100, 97, 121], [111, 114, 100, 101, 114], [101, 118, 101, 110, 116], [98, 101, 103, 117, 110], [111, 118, 101, 114]]
def keyF (s : List UInt8) : Bool := keyWords.contains s
def takeF (ws : List (List UInt8)) (l : List Tok) : Option Nat × List Tok :=
 match l with
 | [] => (none, [])
 | t :: r => if isWord t then (match ws.idxOf? t.text with | some i => (some i, r) | none => (none, t :: r)) else (none, t :: r)
def optF {α : Type} (ws : List (List UInt8)) (l : List Tok) (yes : Nat → List Tok → R α) (no : List Tok → R α) : R α :=
 match takeF ws l with
 | (some i, r) => yes i r
 | (none, r) => no r
mutual
def Tree.size : Tree → Nat
 | .mk _ _ _ _ ks => 1 + sizes ks
def sizes : List Tree → Nat
 | [] => 0
 | t :: r => t.size + sizes r
end
mutual
def Tree.deep : Tree → Nat
 | .mk _ _ _ _ ks => deeps ks + 1
def deeps : List Tree → Nat
 | [] => 0
 | t :: r => max t.deep (deeps r)
end
def guardR {α : Type} (l : List Tok) (e : Nat) (x : R α) : R α := if e = 0 then x else .error (e, l)
def boundC (x : Tree) : Nat := if 20 < x.deep ∨ 200 < x.size then 2 else 0
def boundedF (p : List Tok → R Tree) (l : List Tok) : R Tree := bindR (p l) fun x r => guardR l (boundC x) (.ok (x, r))
/- all but the last point -/
/- Parse: the provision, or an error and its offset -/
end Go.Proofs.YtbicmjmcdnkjhaaGreatDoor
set_option maxRecDepth 20000
set_option maxHeartbeats 400000
namespace Go.Proofs.YtbicmjmcdnkjhaaGreatDoor
open Go.RowKit
abbrev vs (l : List UInt8) : Value := .string ⟨l.toArray⟩
/- the elements of a slice, each of s cells -/
def Sl {α : Type} (cs : α → List Value) (s : Nat) (w : World) (A : Option Addr) (l : List α) : Prop :=
 l ≠ [] → ∃ b o, A = some ⟨b, o, none⟩ ∧ b < w.heap.size ∧ ∀ k x, l[k]? = some x → ∀ j v, (cs x)[j]? = some v → w.cell? ⟨b, o + k * s + j, none⟩ = some v
theorem Sl.below {α : Type} {cs : α → List Value} {s : Nat} {w w' : World} {A : Option Addr} {l : List α} (h : Sl cs s w A l) (hb : Below w.heap.size w w') : Sl cs s w' A l := by
 intro hl
 obtain ⟨b, o, hA, hlt, hc⟩ := h hl
 exact ⟨b, o, hA, Nat.lt_of_lt_of_le hlt hb.size, fun k x hx j v hv => (hb.cell (p := ⟨b, _, none⟩) hlt).trans (hc k x hx j v hv)⟩
theorem cOh {w w' : World} {b : Nat} (h : w'.heap[b]? = w.heap[b]?) (o : Nat) : w'.cell? ⟨b, o, none⟩ = w.cell? ⟨b, o, none⟩ := World.cell?_of_block (a := ⟨b, o, none⟩) h
theorem Sl.keep {α : Type} {cs : α → List Value} {s : Nat} {w w' : World} {A : Option Addr} {l : List α} (h : Sl cs s w A l) (hs : w.heap.size ≤ w'.heap.size)
 (hk : ∀ b o, A = some ⟨b, o, none⟩ → b < w.heap.size → w'.heap[b]? = w.heap[b]?) : Sl cs s w' A l := by
 intro hl
 obtain ⟨b, o, hA, hlt, hc⟩ := h hl
 exact ⟨b, o, hA, Nat.lt_of_lt_of_le hlt hs, fun k x hx j v hv => (cOh (hk b o hA hlt) _).trans (hc k x hx j v hv)⟩
theorem Sl.tail {α : Type} {cs : α → List Value} {s : Nat} {w : World} {b o : Nat} {x : α} {l : List α} (h : Sl cs s w (some ⟨b, o, none⟩) (x :: l)) : Sl cs s w (some ⟨b, o + s, none⟩) l := by
 intro hl
 obtain ⟨b', o', hA, hlt, hc⟩ := h (by simp)
 cases hA
 refine ⟨b, o + s, rfl, hlt, fun k y hy j v hv => ?_⟩
 have := hc (k + 1) y (by simpa using hy) j v hv
 rwa [Nat.add_mul, Nat.one_mul, Nat.add_comm (k * s) s, ← Nat.add_assoc] at this
theorem Sl.nil {α : Type} {cs : α → List Value} {s : Nat} {w : World} {A : Option Addr} : Sl cs s w A [] := fun h => absurd rfl h
/- strings -/
def RdS (w : World) (A : Option Addr) (l : List (List UInt8)) : Prop := Sl (fun s => [vs s]) 1 w A l
theorem RdS.below {w w' : World} {A : Option Addr} {l : List (List UInt8)} (h : RdS w A l) (hb : Below w.heap.size w w') : RdS w' A l := Sl.below h hb
theorem RdS.item {w : World} {A : Option Addr} {l : List (List UInt8)} (h : RdS w A l) {k : Nat} {x : List UInt8} (hx : l[k]? = some x) :
 ∃ b o, A = some ⟨b, o, none⟩ ∧ b < w.heap.size ∧ w.cell? ⟨b, o + k, none⟩ = some (vs x) := by
 obtain ⟨b, o, hA, hlt, hc⟩ := h (by rintro rfl; simp at hx)
 have := hc k x hx 0 _ rfl
 exact ⟨b, o, hA, hlt, by simpa using this⟩
/- tokens -/
abbrev Tok.cells (t : Tok) : List Value := [.int .i64 t.kind, vs t.text, .int .i64 t.n, .int .i64 t.pos]
abbrev Tok.agg (t : Tok) : Value := .agg #[.int .i64 t.kind, vs t.text, .int .i64 t.n, .int .i64 t.pos]
def RdT (w : World) (A : Option Addr) (l : List Tok) : Prop := Sl Tok.cells 4 w A l
theorem RdT.below {w w' : World} {A : Option Addr} {l : List Tok} (h : RdT w A l) (hb : Below w.heap.size w w') : RdT w' A l := Sl.below h hb
theorem RdT.head {w : World} {A : Option Addr} {t : Tok} {l : List Tok} (h : RdT w A (t :: l)) : ∃ b o, A = some ⟨b, o, none⟩ ∧ b < w.heap.size ∧ w.cell? ⟨b, o, none⟩ = some (.int .i64 t.kind) ∧ w.cell? ⟨b, o + 1, none⟩ = some (vs t.text) ∧ w.cell? ⟨b, o + 2, none⟩ = some (.int .i64 t.n) ∧ w.cell? ⟨b, o + 3, none⟩ = some (.int .i64 t.pos) ∧ RdT w (some ⟨b, o + 4, none⟩) l := by
 obtain ⟨b, o, rfl, hlt, hc⟩ := id h (by simp)
 have := hc 0 t rfl
 exact ⟨b, o, rfl, hlt, by simpa using this 0 _ rfl, by simpa using this 1 _ rfl, by simpa using this 2 _ rfl, by simpa using this 3 _ rfl, h.tail⟩
/- what tokens of the lexer are like -/
structure TokFit (t : Tok) : Prop where
 kind : t.kind = 1 ∨ t.kind = 2 ∨ t.kind = 3
 len : t.text.length ≤ 30
 num : t.n ≤ 10000000
 pos : t.pos ≤ 1000000
 nospace : t.kind = 1 → ∀ c ∈ t.text, c ≠ 32
/- w' is w with new blocks, and with changes in the block p alone -/
structure Eff (p : Nat) (w w' : World) : Prop where
 os : w'.os = w.os
 tape : w'.tape = w.tape
 output : w'.output = w.output
 size : w.heap.size ≤ w'.heap.size
 block : ∀ k, k < w.heap.size → k ≠ p → w'.heap[k]? = w.heap[k]?
theorem Eff.refl (p : Nat) (w : World) : Eff p w w := ⟨rfl, rfl, rfl, lR _, fun _ _ _ => rfl⟩
theorem Eff.of_below {p : Nat} {w w' : World} (h : Below w.heap.size w w') : Eff p w w' := ⟨h.os, h.tape, h.output, h.size, fun k hk _ => h.block k hk⟩
theorem Eff.trans {p : Nat} {a b c : World} (h : Eff p a b) (k : Eff p b c) : Eff p a c :=
 ⟨k.os.trans h.os, k.tape.trans h.tape, k.output.trans h.output, Nat.le_trans h.size k.size, fun i hi hn => (k.block i (Nat.lt_of_lt_of_le hi h.size) hn).trans (h.block i hi hn)⟩
theorem Eff.alloc {p : Nat} {a b : World} (h : Eff p a b) (o : Obj) : Eff p a (b.alloc o) := h.trans (Eff.of_below ((Below.refl _ _).alloc (lR _) _))
theorem Eff.setCell {p : Nat} {a b : World} (h : Eff p a b) (q : Addr) (hq : q.block = p ∨ a.heap.size ≤ q.block) (v : Value) : Eff p a (b.setCell q v) := by
 refine ⟨h.os, h.tape, h.output, ?_, fun i hi hn => ?_⟩
 · have := h.size; simpa using this
 · rw [← h.block i hi hn]
   exact Below.heap_setCell _ _ _ _ (by rcases hq with e | e <;> omega)
theorem Eff.cell {p : Nat} {w w' : World} (h : Eff p w w') {b o : Nat} {v : Value} (hc : w.cell? ⟨b, o, none⟩ = some v) (hb : b ≠ p) : w'.cell? ⟨b, o, none⟩ = some v :=
 (cOh (h.block b (World.block_lt_of_cell? _ _ hc) hb) o).trans hc
theorem rSc {w : World} {g o : Nat} {cur : Array Value} {t : TypeId} {u : Value} (hh : w.heap[g]? = some (.cells cur t (0, 0))) : (w.setCell ⟨g, o, none⟩ u).heap[g]? = some (.cells (cur.setIfInBounds o u) t (0, 0)) := by
 simp [World.setCell, Array.getElem?_modify, hh]
/- the parser's block -/
theorem lHp {w : World} {b : Nat} {x : Obj} (h : w.heap[b]? = some x) : b < w.heap.size := by
 rcases Nat.lt_or_ge b w.heap.size with h' | h'
 · exact h'
 · rw [Array.getElem?_eq_none h'] at h; cases h
theorem cOb {w : World} {b o : Nat} {C : Array Value} {t : TypeId} {fr : Nat × Nat} {v : Value} (h : w.heap[b]? = some (.cells C t fr)) (hv : C[o]? = some v) : w.cell? ⟨b, o, none⟩ = some v := by
 simp [World.cell?, h, hv]
theorem fOb {w : World} {b o : Nat} {C : Array Value} {t : TypeId} (h : w.heap[b]? = some (.cells C t (0, 0))) : w.frozen? ⟨b, o, none⟩ = false := by
 simp [World.frozen?, h]
/- an index as Go has it: -1 for none -/
def idx (o : Option Nat) : Int := o.elim (-1) fun i => (i : Int)
theorem gLt {α : Type} {l : List α} {k : Nat} (h : k < l.length) : ∃ x, l[k]? = some x := ⟨l[k], List.getElem?_eq_getElem h⟩
theorem findIdx_some {α : Type} {l : List α} {p : α → Bool} {k : Nat} {x : α} (hx : l[k]? = some x) (hp : p x = true) (hno : ∀ (j : Nat) y, l[j]? = some y → j < k → p y = false) : l.findIdx? p = some k := by
 obtain ⟨hk, rfl⟩ := List.getElem?_eq_some_iff.1 hx
 rw [List.findIdx?_eq_some_iff_getElem]
 refine ⟨hk, hp, fun j hj => ?_⟩
 rw [hno j l[j] (List.getElem?_eq_getElem (by omega)) hj]; simp
theorem findIdx_none {α : Type} {l : List α} {p : α → Bool} (hno : ∀ (j : Nat) y, l[j]? = some y → j < l.length → p y = false) : l.findIdx? p = none := by
 rw [List.findIdx?_eq_none_iff]
 intro x hx
 obtain ⟨j, hj⟩ := List.mem_iff_getElem?.1 hx
 exact hno j x hj (List.getElem?_eq_some_iff.1 hj).1
theorem below_succ {α : Type} {l : List α} {p : α → Bool} {k : Nat} {x : α} (hx : l[k]? = some x) (hp : p x = false) (hno : ∀ (j : Nat) y, l[j]? = some y → j < k → p y = false) : ∀ (j : Nat) y, l[j]? = some y → j < k + 1 → p y = false := by
 intro j y hy hj
 rcases Nat.lt_succ_iff_lt_or_eq.1 hj with h | rfl
 · exact hno j y hy h
 · rw [hx] at hy; cases hy; exact hp
/- slices.Index at strings -/
def ixS (l : List (List UInt8)) (s : List UInt8) : Option Nat := l.findIdx? fun x => s == x
theorem indexS_any (l : List (List UInt8)) (A : Option Addr) (c : Nat) (s : List UInt8) (w : World) (hr : RdS w A l) (hl : l.length ≤ maxLen) :
 Calls Tryz.prog 120 #[.slice A l.length c, vs s] w fun e w' => e = .returned (.int .i64 (idx (ixS l s))) ∧ w = w' := by
 unfold maxLen at hl
 go_enter Tryz.func120, Tryz.ntmps120
 go_wp2
 go_loop [8] (fun i => ∃ k : Nat, k ≤ l.length ∧ i = .int .i64 k ∧ ∀ (j : Nat) x, l[j]? = some x → j < k → (s == x) = false) (fun i => l.length - (intOf i).toNat)
 case atStart => exact ⟨0, Nat.zero_le _, rfl, fun _ _ _ h => absurd h (by omega)⟩
 case round =>
  obtain ⟨k, hk, rfl, hno⟩ := hrel
  have Hno := Hi hno; clear hno
  by_cases hlt : k < l.length
  · obtain ⟨x, hx⟩ := gLt hlt
    obtain ⟨b, o, rfl, hbs, c0⟩ := hr.item hx
    have Hx := Hi hx
    clear hr hx
    cases hp : (s == x) with
    | true =>
      have Hp := Hi hp
      go_wp2_with fail
      go_ret
      exact ⟨by unfold ixS; rw [findIdx_some Hx.out Hp.out Hno.out]; rfl, rfl⟩
    | false =>
      have Hp := Hi hp
      go_wp2_with fail
      exact ⟨⟨k + 1, by omega, by go_num, below_succ (p := fun x => s == x) Hx.out Hp.out Hno.out⟩, by simp [intOf]; omega⟩
  · have : k = l.length := by omega
    subst this
    go_wp2_with fail
    go_ret
    exact ⟨by unfold ixS; rw [findIdx_none Hno.out]; rfl, rfl⟩
end Go.Proofs.YtbicmjmcdnkjhaaGreatDoor
namespace Go
/- x, if it is w with new blocks alone; else w -/
noncomputable def World.grew (w x : World) : World := @ite _ (RowKit.Below w.heap.size w x) (Classical.propDecidable _) x w
end Go
namespace Go.Proofs.YtbicmjmcdnkjhaaGreatDoor
open Go.RowKit
theorem gBl (w x : World) : Below w.heap.size w (World.grew w x) := by
 unfold World.grew
 split
 · assumption
 · exact Below.refl _ _
theorem grew_of {w x : World} (h : Below w.heap.size w x) : World.grew w x = x := by
 unfold World.grew
 rw [if_pos h]
@[go_sem] theorem cell?_grew {w x : World} {b o : Nat} (h : b < w.heap.size) : (World.grew w x).cell? ⟨b, o, none⟩ = w.cell? ⟨b, o, none⟩ := (gBl w x).cell (p := ⟨b, o, none⟩) h
@[go_sem] theorem frozen?_grew {w x : World} {b o : Nat} (h : b < w.heap.size) : (World.grew w x).frozen? ⟨b, o, none⟩ = w.frozen? ⟨b, o, none⟩ := (gBl w x).frozen (p := ⟨b, o, none⟩) h
theorem wp_region_grew {P : Program} {id : Nat} {Q : Exit → Act → World → Prop} {a : Act} {w : World} {l : List Oper} (hm : P.follows .mixedOrders = true) (hB : Region.lexB .any l.toArray = true)
 (h : wpQuiet P l.toArray (fun w' => ∃ x, w' = World.grew w x) (fun a' => ∀ w', (∃ x, w' = World.grew w x) → Q .normal a' w') l a) : (Code.region id l.toArray true).wp P Q a w :=
 wp_region_quiet (C := fun w' => ∃ x, w' = World.grew w x) hm hB ⟨w.drew, (grew_of (Below.refl _ _).drew).symm⟩ (by simpa using h)
/- a callee's contract, met in such a world -/
theorem Calls_grew {P : Program} {f : FuncId} {args : Array Value} {w x : World} {v : Value} (h : Calls P f args (World.grew w x) fun e w' => e = .returned v ∧ Below (World.grew w x).heap.size (World.grew w x) w') :
 Calls P f args (World.grew w x) fun e w' => e = .returned v ∧ ∃ y, w' = World.grew w y :=
 h.mono fun _ w' ⟨he, hb⟩ => ⟨he, w', (grew_of ((gBl w x).trans (hb.mono (gBl w x).size))).symm⟩
/- a row of strings that the call owns -/
abbrev OwnS (w : World) (base : Nat) (v : Value) (l : List (List UInt8)) : Prop := w.ownsRow base 9 1 v l.length (l.map vs)
theorem OwnS.form {w : World} {base : Nat} {v : Value} {l : List (List UInt8)} (h : OwnS w base v l) : ∃ A cap, v = .slice A l.length cap ∧ l.length ≤ cap ∧ RdS w A l ∧ ∀ b o, A = some ⟨b, o, none⟩ → base ≤ b ∧ b < w.heap.size := by
 rcases h.2 with ⟨hv, h0⟩ | ⟨g, cap, cur, rfl, r2, r3, r4, r5, r6, r7⟩
 · refine ⟨none, 0, ?_, by omega, ?_, fun b o e => by cases e⟩
   · rw [hv, h0]
   · have := List.length_eq_zero_iff.1 h0
     subst this
     exact Sl.nil
 · refine ⟨_, cap, rfl, r4, ?_, fun b o e => by cases e; exact ⟨r2, lHp r3⟩⟩
   intro hne
   refine ⟨g, 0, rfl, lHp r3, fun k x hx j u hu => ?_⟩
   cases j with
   | succ j => simp at hu
   | zero =>
     simp at hu
     subst hu
     refine cOb r3 ?_
     have hk : (l.map vs)[k]? = some (vs x) := by simp [hx]
     rw [← r7, List.getElem?_take] at hk
     split at hk
     · rw [← Array.getElem?_toList]; simpa using hk
     · cases hk
theorem OwnS.keep {w w' : World} {base : Nat} {v : Value} {l : List (List UInt8)} (h : OwnS w base v l) (hk : ∀ b, base ≤ b → b < w.heap.size → w'.heap[b]? = w.heap[b]?) : OwnS w' base v l := by
 refine ⟨h.1, ?_⟩
 rcases h.2 with h | ⟨g, cap, cur, rfl, r2, r3, r4⟩
 · exact .inl h
 · exact .inr ⟨g, cap, cur, rfl, r2, (hk g r2 (lHp r3)).trans r3, r4⟩
theorem OwnS.eff {p : Nat} {w w' : World} {base : Nat} {v : Value} {l : List (List UInt8)} (h : OwnS w base v l) (he : Eff p w w') (hp : p < base) : OwnS w' base v l :=
 h.keep (fun b hb hlt => he.block b hlt (by omega))
theorem OwnS.nil {w : World} {base : Nat} : OwnS w base (.slice none 0 0) [] := ⟨rfl, .inl ⟨rfl, rfl⟩⟩
theorem OwnS.own {w : World} {base : Nat} {v : Value} {l : List (List UInt8)} (h : OwnS w base v l) : ∀ b, v.ownBlock = some b → base ≤ b ∧ b < w.heap.size := by
 rcases h.2 with ⟨hv, h0⟩ | ⟨g, cap, cur, rfl, r2, r3, r4⟩
 · intro b hb
   rw [hv] at hb
   simp [Value.ownBlock] at hb
 · intro b hb
   simp [Value.ownBlock] at hb
   subst hb
   exact ⟨r2, lHp r3⟩
theorem info_str : (Tryz.prog.info? 9).map (fun i => (i.zero, i.size, i.bytes)) = some (some (.string ⟨#[]⟩), 1, 16) := by kernel_rfl
theorem wpList_append_str {ops : Array Oper} {rest : List Oper} {o : Oper} {a : Act} {w : World} {Q : Exit → Act → World → Prop} (hgd : o.guard = none) (s x : Operand) (hop : o.op = Op.call { callee := Callee.builtin Builtin.append, args := #[s, x], argTypes := #[25, 25] })
 (base : Nat) (v : Value) (l : List (List UInt8)) (g0 : Nat) (t : List UInt8) (hs : a.eval s = v) (hx : a.eval x = .slice (some ⟨g0, 0, none⟩) 1 1) (hown : OwnS w base v l) (hc : w.cell? ⟨g0, 0, none⟩ = some (vs t))
 (hlen : l.length + 1 ≤ 1000000) (hb : base ≤ w.heap.size) (h : ∀ v' w', OwnS w' base v' (l ++ [t]) → w.grownBy w' v.ownBlock → wpList Tryz.prog ops Q rest (a.put o.dst v') w') : wpList Tryz.prog ops Q (o :: rest) a w := by
 obtain ⟨i0, hi0, hz0, hz1, hz2⟩ := info_parts info_str
 refine wpList_append_own_at _ hgd s x _ hop base 9 i0 (.string ⟨#[]⟩) 1 16 Tryz.underlying25 hi0 hz0 hz1 hz2 rfl (by decide) v l.length (l.map vs) hs hown ⟨g0, 0, none⟩ 1 1 [vs t] hx rfl (fun j u hu => ?_) (by simp [Value.oneCell']) (by unfold maxLen; omega) (by omega) hb ?_
 · cases j with
   | succ j => simp at hu
   | zero => simp at hu; subst hu; rw [Addr.add_lit]; exact hc
 · intro v' w' ho hg _ _
   exact h v' w' (by unfold OwnS; simpa using ho) hg
/- w' is w with new blocks, and with changes in the blocks S alone; S': the blocks that are the writer's behind it -/
structure WrFr (S S' : Nat → Prop) (w w' : World) : Prop where
 os : w'.os = w.os
 tape : w'.tape = w.tape
 output : w'.output = w.output
 size : w.heap.size ≤ w'.heap.size
 block : ∀ k, k < w.heap.size → ¬ S k → w'.heap[k]? = w.heap[k]?
 sub : ∀ k, S' k → S k ∨ w.heap.size ≤ k
theorem WrFr.refl (S : Nat → Prop) (w : World) : WrFr S S w w := ⟨rfl, rfl, rfl, lR _, fun _ _ _ => rfl, fun _ h => Or.inl h⟩
theorem WrFr.of_below {w w' : World} (S : Nat → Prop) (h : Below w.heap.size w w') : WrFr S S w w' := ⟨h.os, h.tape, h.output, h.size, fun k hk _ => h.block k hk, fun _ h => Or.inl h⟩
theorem WrFr.trans {S S1 S2 : Nat → Prop} {a b c : World} (h : WrFr S S1 a b) (k : WrFr S1 S2 b c) : WrFr S S2 a c :=
 ⟨k.os.trans h.os, k.tape.trans h.tape, k.output.trans h.output, Nat.le_trans h.size k.size,
   fun i hi hn => (k.block i (Nat.lt_of_lt_of_le hi h.size) (fun hs => (h.sub i hs).elim hn (fun h' => absurd hi (Nat.not_lt.2 h')))).trans (h.block i hi hn),
   fun i hi => (k.sub i hi).elim (fun h1 => h.sub i h1) (fun h2 => Or.inr (Nat.le_trans h.size h2))⟩
theorem WrFr.box {S S' : Nat → Prop} {w w' : World} {b : Nat} {o : Obj} (h : WrFr S S' w w') (hb : w.heap[b]? = some o) (hn : ¬ S b) : w'.heap[b]? = some o ∧ ¬ S' b :=
 ⟨(h.block b (lHp hb) hn).trans hb, fun hs => (h.sub b hs).elim hn (fun h' => absurd (lHp hb) (Nat.not_lt.2 h'))⟩
theorem WrFr.alloc {S S' : Nat → Prop} {w w' : World} (h : WrFr S S' w w') (o : Obj) : WrFr S S' w (w'.alloc o) := h.trans (WrFr.of_below _ ((Below.refl _ _).alloc (lR _) _))
/- the writer: its block p, of type T; W: the world in which all began -/
structure WrV (W w : World) (p : Nat) (T : TypeId) (S : Nat → Prop) (v1 v2 : Value) (L N : List (List UInt8)) : Prop where
 is : w.heap[p]? = some (.cells #[v1, v2] T (0, 0))
 l : OwnS w 0 v1 L
 n : OwnS w 0 v2 N
 ol : ∀ b, v1.ownBlock = some b → S b ∧ b ≠ p
 on : ∀ b, v2.ownBlock = some b → S b ∧ b ≠ p ∧ v1.ownBlock ≠ some b
 mem : S p
 lt : ∀ k, S k → k < w.heap.size
 lo : ∀ k, S k → W.heap.size ≤ k
 below : Below W.heap.size W w
def Wr (W w : World) (p : Nat) (T : TypeId) (S : Nat → Prop) (L N : List (List UInt8)) : Prop := ∃ v1 v2, WrV W w p T S v1 v2 L N
theorem WrV.keep {W w w' : World} {p : Nat} {T : TypeId} {S : Nat → Prop} {v1 v2 : Value} {L N : List (List UInt8)} (h : WrV W w p T S v1 v2 L N) (hb : Below w.heap.size w w') : WrV W w' p T S v1 v2 L N :=
 ⟨(hb.block p (h.lt p h.mem)).trans h.is, h.l.keep (fun b _ hlt => hb.block b hlt), h.n.keep (fun b _ hlt => hb.block b hlt), h.ol, h.on, h.mem, fun k hk => Nat.lt_of_lt_of_le (h.lt k hk) hb.size, h.lo, h.below.trans (hb.mono h.below.size)⟩
theorem Wr.keep {W w w' : World} {p : Nat} {T : TypeId} {S : Nat → Prop} {L N : List (List UInt8)} (h : Wr W w p T S L N) (hb : Below w.heap.size w w') : Wr W w' p T S L N := by
 obtain ⟨v1, v2, h⟩ := h
 exact ⟨v1, v2, h.keep hb⟩
theorem Wr.alloc {W w : World} {p : Nat} {T : TypeId} {S : Nat → Prop} {L N : List (List UInt8)} (h : Wr W w p T S L N) (o : Obj) : Wr W (w.alloc o) p T S L N := h.keep ((Below.refl _ _).alloc (lR _) _)
theorem Wr.lt {W w : World} {p : Nat} {T : TypeId} {S : Nat → Prop} {L N : List (List UInt8)} (h : Wr W w p T S L N) : ∀ k, S k → k < w.heap.size := by
 obtain ⟨v1, v2, h⟩ := h
 exact h.lt
theorem Wr.fresh {W w : World} {p : Nat} {T : TypeId} {S : Nat → Prop} {L N : List (List UInt8)} (h : Wr W w p T S L N) : ¬ S w.heap.size := fun hs => Nat.lt_irrefl _ (h.lt _ hs)
theorem Wr.below {W w : World} {p : Nat} {T : TypeId} {S : Nat → Prop} {L N : List (List UInt8)} (h : Wr W w p T S L N) : Below W.heap.size W w := by
 obtain ⟨v1, v2, h⟩ := h
 exact h.below
theorem ownBlock_lt {w : World} {v : Value} {l : List (List UInt8)} (h : OwnS w 0 v l) {b : Nat} (hb : v.ownBlock = some b) : b < w.heap.size := (h.own b hb).2
theorem grown_set (w : World) (p o : Nat) (v : Value) : w.grownBy (w.setCell ⟨p, o, none⟩ v) (some p) := ⟨rfl, rfl, rfl, by simp, fun k hk hne => Below.heap_setCell _ _ _ _ (fun e => hne (by rw [e]))⟩
theorem OwnS.kept {w w' : World} {v : Value} {l : List (List UInt8)} {row : Option Nat} (h : OwnS w 0 v l) (hg : w.grownBy w' row) (hne : ∀ b, v.ownBlock = some b → some b ≠ row) : OwnS w' 0 v l := by
 refine World.ownsRow.kept h hg ?_
 cases hv : v.ownBlock with
 | none => exact Or.inl rfl
 | some b => exact Or.inr (hne b hv)
theorem set_block {w : World} {p o : Nat} {C : Array Value} {T : TypeId} {v : Value} (h : w.heap[p]? = some (.cells C T (0, 0))) : (w.setCell ⟨p, o, none⟩ v).heap[p]? = some (.cells (C.setIfInBounds o v) T (0, 0)) := by
 simp [World.setCell, Array.getElem?_modify, h]
/- words put behind the list -/
theorem WrV.put1 {W w w' : World} {p : Nat} {T : TypeId} {S : Nat → Prop} {v1 v2 v : Value} {L L' N : List (List UInt8)} (h : WrV W w p T S v1 v2 L N) (ho : OwnS w' 0 v L') (hg : w.grownBy w' v1.ownBlock)
 (hb : v.ownBlock = v1.ownBlock ∨ v.ownBlock = some w.heap.size) : WrV W (w'.setCell ⟨p, 0, none⟩ v) p T (fun k => S k ∨ v.ownBlock = some k) v v2 L' N ∧ WrFr S (fun k => S k ∨ v.ownBlock = some k) w (w'.setCell ⟨p, 0, none⟩ v) := by
 have hpl := h.lt p h.mem
 have hp : w'.heap[p]? = some (.cells #[v1, v2] T (0, 0)) := (hg.block p hpl (fun e => (h.ol p e.symm).2 rfl)).trans h.is
 have hvp : ∀ b, v.ownBlock = some b → b ≠ p := by
  intro b e
  rcases hb with e' | e'
  · rw [e'] at e; exact (h.ol b e).2
  · rw [e'] at e; injection e with e; omega
 have hsz : (w'.setCell ⟨p, 0, none⟩ v).heap.size = w'.heap.size := by simp
 have hws := hg.size
 have hbl : ∀ k, k < w.heap.size → ¬ S k → (w'.setCell ⟨p, 0, none⟩ v).heap[k]? = w.heap[k]? := fun k hk hn =>
  (Below.heap_setCell _ _ _ _ (fun (e : k = p) => hn (by rw [e]; exact h.mem))).trans (hg.block k hk (fun e => hn (h.ol k e.symm).1))
 refine ⟨⟨set_block hp, ho.kept (grown_set _ _ _ _) (fun b e e' => hvp b e (by injection e')), ?_, fun b e => ⟨Or.inr e, hvp b e⟩, fun b e => ⟨Or.inl (h.on b e).1, (h.on b e).2.1, fun e' => ?_⟩, Or.inl h.mem, fun k hk => ?_, fun k hk => ?_, ?_⟩, ?_⟩
 · refine (h.n.kept hg (fun b e e' => (h.on b e).2.2 e'.symm)).kept (grown_set _ _ _ _) (fun b e e' => (h.on b e).2.1 (by injection e'))
 · rcases hb with e2 | e2
   · rw [e2] at e'; exact (h.on b e).2.2 e'
   · rw [e2] at e'
     injection e' with e'
     have := ownBlock_lt h.n e
     omega
 · rw [hsz]
   rcases hk with hk | hk
   · have := h.lt k hk; omega
   · exact ownBlock_lt ho hk
 · rcases hk with hk | hk
   · exact h.lo k hk
   · rcases hb with e2 | e2
     · rw [e2] at hk; exact h.lo k (h.ol k hk).1
     · rw [e2] at hk
       injection hk with hk
       have := h.below.size
       omega
 · refine h.below.trans ⟨hg.os, hg.tape, hg.output, by rw [hsz]; exact hws, fun k hk => hbl k (by have := h.below.size; omega) (fun hs => by have := h.lo k hs; omega)⟩
 · refine ⟨hg.os, hg.tape, hg.output, by rw [hsz]; exact hws, hbl, fun k hk => ?_⟩
   rcases hk with hk | hk
   · exact Or.inl hk
   · rcases hb with e2 | e2
     · rw [e2] at hk; exact Or.inl (h.ol k hk).1
     · rw [e2] at hk
       injection hk with hk
       exact Or.inr (by omega)
/- names put behind the list of names -/
theorem WrV.put2 {W w w' : World} {p : Nat} {T : TypeId} {S : Nat → Prop} {v1 v2 v : Value} {L N N' : List (List UInt8)} (h : WrV W w p T S v1 v2 L N) (ho : OwnS w' 0 v N') (hg : w.grownBy w' v2.ownBlock)
 (hb : v.ownBlock = v2.ownBlock ∨ v.ownBlock = some w.heap.size) : WrV W (w'.setCell ⟨p, 1, none⟩ v) p T (fun k => S k ∨ v.ownBlock = some k) v1 v L N' ∧ WrFr S (fun k => S k ∨ v.ownBlock = some k) w (w'.setCell ⟨p, 1, none⟩ v) := by
 have hpl := h.lt p h.mem
 have hp : w'.heap[p]? = some (.cells #[v1, v2] T (0, 0)) := (hg.block p hpl (fun e => (h.on p e.symm).2.1 rfl)).trans h.is
 have hvp : ∀ b, v.ownBlock = some b → b ≠ p := by
  intro b e
  rcases hb with e' | e'
  · rw [e'] at e; exact (h.on b e).2.1
  · rw [e'] at e; injection e with e; omega
 have hsz : (w'.setCell ⟨p, 1, none⟩ v).heap.size = w'.heap.size := by simp
 have hws := hg.size
 have hbl : ∀ k, k < w.heap.size → ¬ S k → (w'.setCell ⟨p, 1, none⟩ v).heap[k]? = w.heap[k]? := fun k hk hn =>
  (Below.heap_setCell _ _ _ _ (fun (e : k = p) => hn (by rw [e]; exact h.mem))).trans (hg.block k hk (fun e => hn (h.on k e.symm).1))
 refine ⟨⟨set_block hp, ?_, ho.kept (grown_set _ _ _ _) (fun b e e' => hvp b e (by injection e')), fun b e => ⟨Or.inl (h.ol b e).1, (h.ol b e).2⟩, fun b e => ⟨Or.inr e, hvp b e, fun e' => ?_⟩, Or.inl h.mem, fun k hk => ?_, fun k hk => ?_, ?_⟩, ?_⟩
 · refine (h.l.kept hg (fun b e e' => (h.on b e'.symm).2.2 e)).kept (grown_set _ _ _ _) (fun b e e' => (h.ol b e).2 (by injection e'))
 · rcases hb with e2 | e2
   · rw [e2] at e; exact (h.on b e).2.2 e'
   · rw [e2] at e
     injection e with e
     have := ownBlock_lt h.l e'
     omega
 · rw [hsz]
   rcases hk with hk | hk
   · have := h.lt k hk; omega
   · exact ownBlock_lt ho hk
 · rcases hk with hk | hk
   · exact h.lo k hk
   · rcases hb with e2 | e2
     · rw [e2] at hk; exact h.lo k (h.on k hk).1
     · rw [e2] at hk
       injection hk with hk
       have := h.below.size
       omega
 · refine h.below.trans ⟨hg.os, hg.tape, hg.output, by rw [hsz]; exact hws, fun k hk => hbl k (by have := h.below.size; omega) (fun hs => by have := h.lo k hs; omega)⟩
 · refine ⟨hg.os, hg.tape, hg.output, by rw [hsz]; exact hws, hbl, fun k hk => ?_⟩
   rcases hk with hk | hk
   · exact Or.inl hk
   · rcases hb with e2 | e2
     · rw [e2] at hk; exact Or.inl (h.on k hk).1
     · rw [e2] at hk
       injection hk with hk
       exact Or.inr (by omega)
/- what a function of the writer answers -/
def WrPost (W w : World) (p : Nat) (T : TypeId) (S : Nat → Prop) (L N : List (List UInt8)) (e : Ending) (w' : World) : Prop := e = .returned (.tuple #[]) ∧ ∃ S', Wr W w' p T S' L N ∧ WrFr S S' w w'
end Go.Proofs.YtbicmjmcdnkjhaaGreatDoor
