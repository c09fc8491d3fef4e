/- Words for memory: strings, tokens, the parser's block. -/
import Derived.Test.YtcekampdldkjlaaGreatDoorRows
import Derived.Test.YtcekampdldkjlaaGreatDoorNDefs
import Derived.WalkKit
import Derived.WalkSpells
import Derived.WalkLawsBesides
import Derived.Lib.Hide
import Derived.Deep.DeepMust
import Derived.Deep.DeepFit
set_option linter.unusedVariables false
set_option linter.unusedSimpArgs false
namespace Go.Proofs.YtcekampdldkjlaaGreatDoor
open Go.RowKit
abbrev vs (l : List UInt8) : Value := .string ⟨l.toArray⟩
/- the elements of a slice, each of s cells -/
def Sl {α : Type} (cs : α → List Value) (s : Nat) (w : World) (A : Option Addr) (l : List α) : Prop :=
  l ≠ [] → ∃ b o, A = some ⟨b, o, none⟩ ∧ b < w.heap.size ∧ ∀ k x, l[k]? = some x → ∀ j v, (cs x)[j]? = some v → w.cell? ⟨b, o + k * s + j, none⟩ = some v
theorem Sl.below {α : Type} {cs : α → List Value} {s : Nat} {w w' : World} {A : Option Addr} {l : List α} (h : Sl cs s w A l) (hb : Below w.heap.size w w') : Sl cs s w' A l := by
  intro hl
  obtain ⟨b, o, hA, hlt, hc⟩ := h hl
  exact ⟨b, o, hA, Nat.lt_of_lt_of_le hlt hb.size, fun k x hx j v hv => (hb.cell (p := ⟨b, _, none⟩) hlt).trans (hc k x hx j v hv)⟩
theorem cell_of_heap {w w' : World} {b : Nat} (h : w'.heap[b]? = w.heap[b]?) (o : Nat) : w'.cell? ⟨b, o, none⟩ = w.cell? ⟨b, o, none⟩ := World.cell?_of_block (a := ⟨b, o, none⟩) h
theorem Sl.keep {α : Type} {cs : α → List Value} {s : Nat} {w w' : World} {A : Option Addr} {l : List α} (h : Sl cs s w A l) (hs : w.heap.size ≤ w'.heap.size)
    (hk : ∀ b o, A = some ⟨b, o, none⟩ → b < w.heap.size → w'.heap[b]? = w.heap[b]?) : Sl cs s w' A l := by
  intro hl
  obtain ⟨b, o, hA, hlt, hc⟩ := h hl
  exact ⟨b, o, hA, Nat.lt_of_lt_of_le hlt hs, fun k x hx j v hv => (cell_of_heap (hk b o hA hlt) _).trans (hc k x hx j v hv)⟩
theorem Sl.tail {α : Type} {cs : α → List Value} {s : Nat} {w : World} {b o : Nat} {x : α} {l : List α} (h : Sl cs s w (some ⟨b, o, none⟩) (x :: l)) : Sl cs s w (some ⟨b, o + s, none⟩) l := by
  intro hl
  obtain ⟨b', o', hA, hlt, hc⟩ := h (by simp)
  cases hA
  refine ⟨b, o + s, rfl, hlt, fun k y hy j v hv => ?_⟩
  have := hc (k + 1) y (by simpa using hy) j v hv
  rwa [Nat.add_mul, Nat.one_mul, Nat.add_comm (k * s) s, ← Nat.add_assoc] at this
theorem Sl.nil {α : Type} {cs : α → List Value} {s : Nat} {w : World} {A : Option Addr} : Sl cs s w A [] := fun h => absurd rfl h
/- strings -/
def RdS (w : World) (A : Option Addr) (l : List (List UInt8)) : Prop := Sl (fun s => [vs s]) 1 w A l
theorem RdS.below {w w' : World} {A : Option Addr} {l : List (List UInt8)} (h : RdS w A l) (hb : Below w.heap.size w w') : RdS w' A l := Sl.below h hb
theorem RdS.item {w : World} {A : Option Addr} {l : List (List UInt8)} (h : RdS w A l) {k : Nat} {x : List UInt8} (hx : l[k]? = some x) :
    ∃ b o, A = some ⟨b, o, none⟩ ∧ b < w.heap.size ∧ w.cell? ⟨b, o + k, none⟩ = some (vs x) := by
  obtain ⟨b, o, hA, hlt, hc⟩ := h (by rintro rfl; simp at hx)
  have := hc k x hx 0 _ rfl
  exact ⟨b, o, hA, hlt, by simpa using this⟩
/- tokens -/
abbrev Tok.cells (t : Tok) : List Value := [.int .i64 t.kind, vs t.text, .int .i64 t.n, .int .i64 t.pos]
abbrev Tok.agg (t : Tok) : Value := .agg #[.int .i64 t.kind, vs t.text, .int .i64 t.n, .int .i64 t.pos]
def RdT (w : World) (A : Option Addr) (l : List Tok) : Prop := Sl Tok.cells 4 w A l
theorem RdT.below {w w' : World} {A : Option Addr} {l : List Tok} (h : RdT w A l) (hb : Below w.heap.size w w') : RdT w' A l := Sl.below h hb
theorem RdT.head {w : World} {A : Option Addr} {t : Tok} {l : List Tok} (h : RdT w A (t :: l)) : ∃ b o, A = some ⟨b, o, none⟩ ∧ b < w.heap.size ∧ w.cell? ⟨b, o, none⟩ = some (.int .i64 t.kind) ∧ w.cell? ⟨b, o + 1, none⟩ = some (vs t.text) ∧ w.cell? ⟨b, o + 2, none⟩ = some (.int .i64 t.n) ∧ w.cell? ⟨b, o + 3, none⟩ = some (.int .i64 t.pos) ∧ RdT w (some ⟨b, o + 4, none⟩) l := by
  obtain ⟨b, o, rfl, hlt, hc⟩ := id h (by simp)
  have := hc 0 t rfl
  exact ⟨b, o, rfl, hlt, by simpa using this 0 _ rfl, by simpa using this 1 _ rfl, by simpa using this 2 _ rfl, by simpa using this 3 _ rfl, h.tail⟩
/- what tokens of the lexer are like -/
structure TokFit (t : Tok) : Prop where
  kind : t.kind = 1 ∨ t.kind = 2 ∨ t.kind = 3
  len : t.text.length ≤ 30
  num : t.n ≤ 10000000
  pos : t.pos ≤ 1000000
  nospace : t.kind = 1 → ∀ c ∈ t.text, c ≠ 32
/- w' is w with new blocks, and with changes in the block p alone -/
structure Eff (p : Nat) (w w' : World) : Prop where
  os : w'.os = w.os
  tape : w'.tape = w.tape
  output : w'.output = w.output
  size : w.heap.size ≤ w'.heap.size
  block : ∀ k, k < w.heap.size → k ≠ p → w'.heap[k]? = w.heap[k]?
theorem Eff.refl (p : Nat) (w : World) : Eff p w w := ⟨rfl, rfl, rfl, Nat.le_refl _, fun _ _ _ => rfl⟩
theorem Eff.of_below {p : Nat} {w w' : World} (h : Below w.heap.size w w') : Eff p w w' := ⟨h.os, h.tape, h.output, h.size, fun k hk _ => h.block k hk⟩
theorem Eff.trans {p : Nat} {a b c : World} (h : Eff p a b) (k : Eff p b c) : Eff p a c :=
  ⟨k.os.trans h.os, k.tape.trans h.tape, k.output.trans h.output, Nat.le_trans h.size k.size, fun i hi hn => (k.block i (Nat.lt_of_lt_of_le hi h.size) hn).trans (h.block i hi hn)⟩
theorem Eff.alloc {p : Nat} {a b : World} (h : Eff p a b) (o : Obj) : Eff p a (b.alloc o) := h.trans (Eff.of_below ((Below.refl _ _).alloc (Nat.le_refl _) _))
theorem Eff.setCell {p : Nat} {a b : World} (h : Eff p a b) (q : Addr) (hq : q.block = p ∨ a.heap.size ≤ q.block) (v : Value) : Eff p a (b.setCell q v) := by
  refine ⟨h.os, h.tape, h.output, ?_, fun i hi hn => ?_⟩
  · have := h.size; simpa using this
  · rw [← h.block i hi hn]
    exact Below.heap_setCell _ _ _ _ (by rcases hq with e | e <;> omega)
theorem Eff.cell {p : Nat} {w w' : World} (h : Eff p w w') {b o : Nat} {v : Value} (hc : w.cell? ⟨b, o, none⟩ = some v) (hb : b ≠ p) : w'.cell? ⟨b, o, none⟩ = some v :=
  (cell_of_heap (h.block b (World.block_lt_of_cell? _ _ hc) hb) o).trans hc
theorem lt_of_heap' {w : World} {b : Nat} {x : Obj} (h : w.heap[b]? = some x) : b < w.heap.size := by
  rcases Nat.lt_or_ge b w.heap.size with h' | h'
  · exact h'
  · rw [Array.getElem?_eq_none h'] at h; cases h
/- the parser's block: all tokens, the next one's number, the text's length; l: what is left -/
structure PS (w : World) (p fin : Nat) (ts l : List Tok) : Prop where
  is : ∃ A c u, w.heap[p]? = some (.cells #[.slice A ts.length c, .int .i64 (u.length : Nat), .int .i64 fin] 44 (0, 0)) ∧ ts = u ++ l ∧ RdT w A ts ∧ (∀ b o, A = some ⟨b, o, none⟩ → b < p) ∧ ts.length ≤ c ∧ c ≤ 9223372036854775807
  fit : ∀ t ∈ ts, TokFit t
  few : ts.length ≤ 5000
  mx : ∃ m, w.cell? ⟨2, 0, none⟩ = some (.int .i64 m)
  ne : 2 < p
  bound : fin ≤ 1000000
theorem PS.lt {w : World} {p fin : Nat} {ts l : List Tok} (h : PS w p fin ts l) : p < w.heap.size := by obtain ⟨A, c, u, hh, _⟩ := h.is; exact lt_of_heap' hh
theorem PS.below {w w' : World} {p fin : Nat} {ts l : List Tok} (h : PS w p fin ts l) (hb : Below w.heap.size w w') : PS w' p fin ts l := by
  obtain ⟨A, c, u, hh, hu, hr, hn, h1, h2⟩ := h.is
  obtain ⟨m, hm⟩ := h.mx
  exact ⟨⟨A, c, u, (hb.block p (lt_of_heap' hh)).trans hh, hu, hr.below hb, hn, h1, h2⟩, h.fit, h.few, ⟨m, (hb.cell (p := ⟨_, 0, none⟩) (World.block_lt_of_cell? _ _ hm)).trans hm⟩, h.ne, h.bound⟩
theorem PS.keep {w w' : World} {p fin : Nat} {ts l : List Tok} (h : PS w p fin ts l) (hs : w.heap.size ≤ w'.heap.size) (hk : ∀ b, b ≤ p → w'.heap[b]? = w.heap[b]?) : PS w' p fin ts l := by
  obtain ⟨A, c, u, hh, hu, hr, hn, h1, h2⟩ := h.is
  obtain ⟨m, hm⟩ := h.mx
  have hne := h.ne
  exact ⟨⟨A, c, u, (hk p (Nat.le_refl _)).trans hh, hu, Sl.keep hr hs (fun b o hA _ => hk b (Nat.le_of_lt (hn b o hA))), hn, h1, h2⟩, h.fit, h.few, ⟨m, (cell_of_heap (hk _ (Nat.le_of_lt hne)) 0).trans hm⟩, h.ne, h.bound⟩
theorem row_setCell {w : World} {g o : Nat} {cur : Array Value} {t : TypeId} {u : Value} (hh : w.heap[g]? = some (.cells cur t (0, 0))) : (w.setCell ⟨g, o, none⟩ u).heap[g]? = some (.cells (cur.setIfInBounds o u) t (0, 0)) := by
  simp [World.setCell, Array.getElem?_modify, hh]
theorem cell_of_blk {w : World} {b o : Nat} {C : Array Value} {t : TypeId} {fr : Nat × Nat} {v : Value} (h : w.heap[b]? = some (.cells C t fr)) (hv : C[o]? = some v) : w.cell? ⟨b, o, none⟩ = some v := by
  simp [World.cell?, h, hv]
theorem frozen_of_blk {w : World} {b o : Nat} {C : Array Value} {t : TypeId} (h : w.heap[b]? = some (.cells C t (0, 0))) : w.frozen? ⟨b, o, none⟩ = false := by
  simp [World.frozen?, h]
/- an index as Go has it: -1 for none -/
def idx (o : Option Nat) : Int := o.elim (-1) fun i => (i : Int)
theorem get_of_lt {α : Type} {l : List α} {k : Nat} (h : k < l.length) : ∃ x, l[k]? = some x := ⟨l[k], List.getElem?_eq_getElem h⟩
theorem findIdx_some {α : Type} {l : List α} {p : α → Bool} {k : Nat} {x : α} (hx : l[k]? = some x) (hp : p x = true) (hno : ∀ (j : Nat) y, l[j]? = some y → j < k → p y = false) : l.findIdx? p = some k := by
  obtain ⟨hk, rfl⟩ := List.getElem?_eq_some_iff.1 hx
  rw [List.findIdx?_eq_some_iff_getElem]
  refine ⟨hk, hp, fun j hj => ?_⟩
  rw [hno j l[j] (List.getElem?_eq_getElem (by omega)) hj]; simp
theorem findIdx_none {α : Type} {l : List α} {p : α → Bool} (hno : ∀ (j : Nat) y, l[j]? = some y → j < l.length → p y = false) : l.findIdx? p = none := by
  rw [List.findIdx?_eq_none_iff]
  intro x hx
  obtain ⟨j, hj⟩ := List.mem_iff_getElem?.1 hx
  exact hno j x hj (List.getElem?_eq_some_iff.1 hj).1
theorem below_succ {α : Type} {l : List α} {p : α → Bool} {k : Nat} {x : α} (hx : l[k]? = some x) (hp : p x = false) (hno : ∀ (j : Nat) y, l[j]? = some y → j < k → p y = false) : ∀ (j : Nat) y, l[j]? = some y → j < k + 1 → p y = false := by
  intro j y hy hj
  rcases Nat.lt_succ_iff_lt_or_eq.1 hj with h | rfl
  · exact hno j y hy h
  · rw [hx] at hy; cases hy; exact hp
theorem ret_int {k : IntKind} {a b : Int} (h : a = b) : Ending.returned (.int k a) = .returned (.int k b) := by rw [h]
theorem ret_bool {a b : Bool} (h : a = b) : Ending.returned (.bool a) = .returned (.bool b) := by rw [h]
theorem bcell {W w1 : World} (hb : Below W.heap.size W w1) : (∀ b o, b < W.heap.size → w1.cell? ⟨b, o, none⟩ = W.cell? ⟨b, o, none⟩) ∧ (∀ b o, b < W.heap.size → w1.frozen? ⟨b, o, none⟩ = W.frozen? ⟨b, o, none⟩) :=
  ⟨fun b o h => hb.cell (p := ⟨b, o, none⟩) h, fun b o h => hb.frozen (p := ⟨b, o, none⟩) h⟩
/- slices.Index at strings -/
def ixS (l : List (List UInt8)) (s : List UInt8) : Option Nat := l.findIdx? fun x => s == x
theorem ixS_eq (l : List (List UInt8)) (s : List UInt8) : ixS l s = l.idxOf? s := by
  unfold ixS List.idxOf?
  congr 1
  funext x
  exact BEq.comm
set_option maxRecDepth 20000 in
set_option maxHeartbeats 400000 in
theorem indexS_any (l : List (List UInt8)) (A : Option Addr) (c : Nat) (s : List UInt8) (w : World) (hr : RdS w A l) (hl : l.length ≤ maxLen) :
    Calls Tryz.prog 77 #[.slice A l.length c, vs s] w fun e w' => e = .returned (.int .i64 (idx (ixS l s))) ∧ w = w' := by
  unfold maxLen at hl
  go_enter Tryz.func77, Tryz.ntmps77
  go_wp2
  go_loop [8] (fun i => ∃ k : Nat, k ≤ l.length ∧ i = .int .i64 k ∧ ∀ (j : Nat) x, l[j]? = some x → j < k → (s == x) = false) (fun i => l.length - (intOf i).toNat)
  case atStart => exact ⟨0, Nat.zero_le _, rfl, fun _ _ _ h => absurd h (by omega)⟩
  case round =>
    obtain ⟨k, hk, rfl, hno⟩ := hrel
    have Hno := Lib.hid hno; clear hno
    by_cases hlt : k < l.length
    · obtain ⟨x, hx⟩ := get_of_lt hlt
      obtain ⟨b, o, rfl, hbs, c0⟩ := hr.item hx
      have Hx := Lib.hid hx
      clear hr hx
      cases hp : (s == x) with
      | true =>
        have Hp := Lib.hid hp
        go_wp2_with fail
        go_ret
        exact ⟨by unfold ixS; rw [findIdx_some Hx.out Hp.out Hno.out]; rfl, rfl⟩
      | false =>
        have Hp := Lib.hid hp
        go_wp2_with fail
        exact ⟨⟨k + 1, by omega, by go_num, below_succ (p := fun x => s == x) Hx.out Hp.out Hno.out⟩, by simp [intOf]; omega⟩
    · have : k = l.length := by omega
      subst this
      go_wp2_with fail
      go_ret
      exact ⟨by unfold ixS; rw [findIdx_none Hno.out]; rfl, rfl⟩
end Go.Proofs.YtcekampdldkjlaaGreatDoor
