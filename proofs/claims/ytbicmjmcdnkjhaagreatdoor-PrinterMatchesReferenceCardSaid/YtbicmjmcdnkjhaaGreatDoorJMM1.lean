/- Short names. The lexer and the parser as plain functions on lists. Words for memory: strings, tokens, the parser's block. A region that draws its order, whose operations read and whose callees make memory of their own alone: one walk in the order of the text. A row of strings that the call owns; one string put behind. (Of NExc, without the parser.) A writer in memory: the words of a text, and the names among them; what may be changed behind it. Plain laws of the lexer and the parser. -/
import Derived.Lib.Hide
import Derived.Test.YtbicmjmcdnkjhaaGreatDoorRows
import Derived.WalkKit
import Derived.WalkSpells
import Derived.WalkLawsBesides
import Derived.Deep.DeepMust
import Derived.Deep.DeepFit
import Derived.Deep.QuietTactic
import Derived.BigQuiet
import Derived.Laws.AppendOwn
set_option linter.unusedVariables false
set_option linter.unusedSimpArgs false
namespace Go.Proofs.YtbicmjmcdnkjhaaGreatDoor
open Go.RowKit
theorem Hi {p : Prop} (h : p) : Hid p := Lib.hid h
theorem lR (n : Nat) : n ≤ n := Nat.le_refl n
end Go.Proofs.YtbicmjmcdnkjhaaGreatDoor
namespace Go.Proofs.YtbicmjmcdnkjhaaGreatDoor
structure Tok where
 kind : Nat
 text : List UInt8
 n : Nat
 pos : Nat
abbrev Bytes := List UInt8
inductive Tree where
 | mk (op : Nat) (name : List UInt8) (cmp n : Nat) (kids : List Tree)
structure Prov where
 id : List UInt8
 rank : Nat
 kind : Nat
 name : List UInt8
 value : Nat
 cond : Tree
 exc : List (List UInt8)
 beg : Tree
 fin : Tree
 aga : Tree
/- bytes -/
def letterB (c : UInt8) : Bool := (97 ≤ c && c ≤ 122) || (65 ≤ c && c ≤ 90)
def digitB (c : UInt8) : Bool := 48 ≤ c && c ≤ 57
def wordB (c : UInt8) : Bool := letterB c || digitB c || c == 95
def blankB (c : UInt8) : Bool := c == 32 || c == 9 || c == 10
def symB (c : UInt8) : Bool := c == 59 || c == 44 || c == 46 || c == 58 || c == 40 || c == 41 || c == 91 || c == 93 || c == 123 || c == 125 || c == 61
def preB (c : UInt8) : Bool := c == 60 || c == 62
def valN (l : List UInt8) : Nat := l.foldl (fun a c => 10 * a + (c.toNat - 48)) 0
/- the token that begins with c, r behind it: kind, length, value; or an error -/
def lexOne (c : UInt8) (r : List UInt8) : Except Nat (Nat × Nat × Nat) :=
 if letterB c then
  if 24 < (r.takeWhile wordB).length + 1 then .error 2 else .ok (1, (r.takeWhile wordB).length + 1, 0)
 else if digitB c then
  if 7 < (r.takeWhile digitB).length + 1 ∨ ((r.drop (r.takeWhile digitB).length).head?.any wordB) = true then .error 4
  else .ok (2, (r.takeWhile digitB).length + 1, valN (c :: r.takeWhile digitB))
 else if symB c then .ok (3, 1, 0)
 else if preB c then (if r.head? = some 61 then .ok (3, 2, 0) else .ok (3, 1, 0))
 else if c = 33 then (if r.head? = some 61 then .ok (3, 2, 0) else .error 3)
 else .error 3
def scan : Nat → List UInt8 → Nat → List Tok × Option (Nat × Nat)
 | 0, _, _ => ([], none)
 | _ + 1, [], _ => ([], none)
 | f + 1, c :: r, p =>
   if blankB c then scan f r (p + 1)
   else if c = 35 then scan f (r.drop (r.takeWhile (· != 10)).length) (p + 1 + (r.takeWhile (· != 10)).length)
   else match lexOne c r with
    | .error e => ([], some (e, p))
    | .ok (kind, k, v) => (⟨kind, (c :: r).take k, v, p⟩ :: (scan f (r.drop (k - 1)) (p + k)).1, (scan f (r.drop (k - 1)) (p + k)).2)
/- the lexer: an error has its offset -/
def lexF (l : List UInt8) : Except (Nat × Int) (List Tok) :=
 if 20000 < l.length then .error (2, -1)
 else match (scan l.length l 0).1.drop 5000 with
  | t :: _ => .error (2, t.pos)
  | [] => match (scan l.length l 0).2 with
    | some (e, p) => .error (e, p)
    | none => .ok (scan l.length l 0).1
/- the parser: an error has the tokens at which it is -/
abbrev R (α : Type) := Except (Nat × List Tok) (α × List Tok)
def bindR {α β : Type} (p : R α) (f : α → List Tok → R β) : R β := match p with | .error e => .error e | .ok (x, r) => f x r
def isWord (t : Tok) : Bool := t.kind == 1 || t.kind == 3
def keyWords : List (List UInt8) := [[99, 111, 110, 115, 116, 105, 116, 117, 116, 105, 111, 110], [97, 99, 116], [114, 101, 103, 117, 108, 97, 116, 105, 111, 110], [98, 121, 108, 97, 119], [100, 101, 102, 105, 110, 101], [97, 110, 115, 119, 101, 114], [105, 115], [105, 102], [110, 111, 116, 119, 105, 116, 104, 115, 116, 97, 110, 100, 105, 110, 103], [102, 114, 111, 109], [117, 110, 116, 105, 108], [97, 103, 97, 105, 110], [111, 114], [97, 110, 100], [110, 111, 116], [116, 114, 117, 101], [102, 97, 108, 115, 101], [97, 108, 119, 97, 121, 115], [110, 101, 118, 101, 114], [100, 97, 121], [111, 114, 100, 101, 114], [101, 118, 101, 110, 116], [98, 101, 103, 117, 110], [111, 118, 101, 114]]
def keyF (s : List UInt8) : Bool := keyWords.contains s
def takeF (ws : List (List UInt8)) (l : List Tok) : Option Nat × List Tok :=
 match l with
 | [] => (none, [])
 | t :: r => if isWord t then (match ws.idxOf? t.text with | some i => (some i, r) | none => (none, t :: r)) else (none, t :: r)
def optF {α : Type} (ws : List (List UInt8)) (l : List Tok) (yes : Nat → List Tok → R α) (no : List Tok → R α) : R α :=
 match takeF ws l with
 | (some i, r) => yes i r
 | (none, r) => no r
mutual
def Tree.size : Tree → Nat
 | .mk _ _ _ _ ks => 1 + sizes ks
def sizes : List Tree → Nat
 | [] => 0
 | t :: r => t.size + sizes r
end
mutual
def Tree.deep : Tree → Nat
 | .mk _ _ _ _ ks => deeps ks + 1
def deeps : List Tree → Nat
 | [] => 0
 | t :: r => max t.deep (deeps r)
end
def guardR {α : Type} (l : List Tok) (e : Nat) (x : R α) : R α := if e = 0 then x else .error (e, l)
def boundC (x : Tree) : Nat := if 20 < x.deep ∨ 200 < x.size then 2 else 0
def boundedF (p : List Tok → R Tree) (l : List Tok) : R Tree := bindR (p l) fun x r => guardR l (boundC x) (.ok (x, r))
/- all but the last point -/
/- Parse: the provision, or an error and its offset -/
open Go.RowKit
abbrev vs (l : List UInt8) : Value := .string ⟨l.toArray⟩
/- the elements of a slice, each of s cells -/
def Sl {α : Type} (cs : α → List Value) (s : Nat) (w : World) (A : Option Addr) (l : List α) : Prop :=
 l ≠ [] → ∃ b o, A = some ⟨b, o, none⟩ ∧ b < w.heap.size ∧ ∀ k x, l[k]? = some x → ∀ j v, (cs x)[j]? = some v → w.cell? ⟨b, o + k * s + j, none⟩ = some v
theorem Sl.below {α : Type} {cs : α → List Value} {s : Nat} {w w' : World} {A : Option Addr} {l : List α} (h : Sl cs s w A l) (hb : Below w.heap.size w w') : Sl cs s w' A l := by
 intro hl
 obtain ⟨b, o, hA, hlt, hc⟩ := h hl
 exact ⟨b, o, hA, Nat.lt_of_lt_of_le hlt hb.size, fun k x hx j v hv => (hb.cell (p := ⟨b, _, none⟩) hlt).trans (hc k x hx j v hv)⟩
theorem cOh {w w' : World} {b : Nat} (h : w'.heap[b]? = w.heap[b]?) (o : Nat) : w'.cell? ⟨b, o, none⟩ = w.cell? ⟨b, o, none⟩ := World.cell?_of_block (a := ⟨b, o, none⟩) h
theorem Sl.tail {α : Type} {cs : α → List Value} {s : Nat} {w : World} {b o : Nat} {x : α} {l : List α} (h : Sl cs s w (some ⟨b, o, none⟩) (x :: l)) : Sl cs s w (some ⟨b, o + s, none⟩) l := by
 intro hl
 obtain ⟨b', o', hA, hlt, hc⟩ := h (by simp)
 cases hA
 refine ⟨b, o + s, rfl, hlt, fun k y hy j v hv => ?_⟩
 have := hc (k + 1) y (by simpa using hy) j v hv
 rwa [Nat.add_mul, Nat.one_mul, Nat.add_comm (k * s) s, ← Nat.add_assoc] at this
theorem Sl.nil {α : Type} {cs : α → List Value} {s : Nat} {w : World} {A : Option Addr} : Sl cs s w A [] := fun h => absurd rfl h
/- strings -/
def RdS (w : World) (A : Option Addr) (l : List (List UInt8)) : Prop := Sl (fun s => [vs s]) 1 w A l
theorem RdS.below {w w' : World} {A : Option Addr} {l : List (List UInt8)} (h : RdS w A l) (hb : Below w.heap.size w w') : RdS w' A l := Sl.below h hb
theorem RdS.item {w : World} {A : Option Addr} {l : List (List UInt8)} (h : RdS w A l) {k : Nat} {x : List UInt8} (hx : l[k]? = some x) :
 ∃ b o, A = some ⟨b, o, none⟩ ∧ b < w.heap.size ∧ w.cell? ⟨b, o + k, none⟩ = some (vs x) := by
 obtain ⟨b, o, hA, hlt, hc⟩ := h (by rintro rfl; simp at hx)
 have := hc k x hx 0 _ rfl
 exact ⟨b, o, hA, hlt, by simpa using this⟩
/- tokens -/
abbrev Tok.cells (t : Tok) : List Value := [.int .i64 t.kind, vs t.text, .int .i64 t.n, .int .i64 t.pos]
def RdT (w : World) (A : Option Addr) (l : List Tok) : Prop := Sl Tok.cells 4 w A l
theorem RdT.head {w : World} {A : Option Addr} {t : Tok} {l : List Tok} (h : RdT w A (t :: l)) : ∃ b o, A = some ⟨b, o, none⟩ ∧ b < w.heap.size ∧ w.cell? ⟨b, o, none⟩ = some (.int .i64 t.kind) ∧ w.cell? ⟨b, o + 1, none⟩ = some (vs t.text) ∧ w.cell? ⟨b, o + 2, none⟩ = some (.int .i64 t.n) ∧ w.cell? ⟨b, o + 3, none⟩ = some (.int .i64 t.pos) ∧ RdT w (some ⟨b, o + 4, none⟩) l := by
 obtain ⟨b, o, rfl, hlt, hc⟩ := id h (by simp)
 have := hc 0 t rfl
 exact ⟨b, o, rfl, hlt, by simpa using this 0 _ rfl, by simpa using this 1 _ rfl, by simpa using this 2 _ rfl, by simpa using this 3 _ rfl, h.tail⟩
/- what tokens of the lexer are like -/
/- w' is w with new blocks, and with changes in the block p alone -/
structure Eff (p : Nat) (w w' : World) : Prop where
 os : w'.os = w.os
 tape : w'.tape = w.tape
 output : w'.output = w.output
 size : w.heap.size ≤ w'.heap.size
 block : ∀ k, k < w.heap.size → k ≠ p → w'.heap[k]? = w.heap[k]?
theorem Eff.refl (p : Nat) (w : World) : Eff p w w := ⟨rfl, rfl, rfl, lR _, fun _ _ _ => rfl⟩
theorem Eff.of_below {p : Nat} {w w' : World} (h : Below w.heap.size w w') : Eff p w w' := ⟨h.os, h.tape, h.output, h.size, fun k hk _ => h.block k hk⟩
theorem Eff.trans {p : Nat} {a b c : World} (h : Eff p a b) (k : Eff p b c) : Eff p a c :=
 ⟨k.os.trans h.os, k.tape.trans h.tape, k.output.trans h.output, Nat.le_trans h.size k.size, fun i hi hn => (k.block i (Nat.lt_of_lt_of_le hi h.size) hn).trans (h.block i hi hn)⟩
theorem Eff.alloc {p : Nat} {a b : World} (h : Eff p a b) (o : Obj) : Eff p a (b.alloc o) := h.trans (Eff.of_below ((Below.refl _ _).alloc (lR _) _))
theorem Eff.setCell {p : Nat} {a b : World} (h : Eff p a b) (q : Addr) (hq : q.block = p ∨ a.heap.size ≤ q.block) (v : Value) : Eff p a (b.setCell q v) := by
 refine ⟨h.os, h.tape, h.output, ?_, fun i hi hn => ?_⟩
 · have := h.size; simpa using this
 · rw [← h.block i hi hn]
   exact Below.heap_setCell _ _ _ _ (by rcases hq with e | e <;> omega)
theorem rSc {w : World} {g o : Nat} {cur : Array Value} {t : TypeId} {u : Value} (hh : w.heap[g]? = some (.cells cur t (0, 0))) : (w.setCell ⟨g, o, none⟩ u).heap[g]? = some (.cells (cur.setIfInBounds o u) t (0, 0)) := by
 simp [World.setCell, Array.getElem?_modify, hh]
/- the parser's block -/
theorem lHp {w : World} {b : Nat} {x : Obj} (h : w.heap[b]? = some x) : b < w.heap.size := by
 rcases Nat.lt_or_ge b w.heap.size with h' | h'
 · exact h'
 · rw [Array.getElem?_eq_none h'] at h; cases h
theorem cOb {w : World} {b o : Nat} {C : Array Value} {t : TypeId} {fr : Nat × Nat} {v : Value} (h : w.heap[b]? = some (.cells C t fr)) (hv : C[o]? = some v) : w.cell? ⟨b, o, none⟩ = some v := by
 simp [World.cell?, h, hv]
theorem fOb {w : World} {b o : Nat} {C : Array Value} {t : TypeId} (h : w.heap[b]? = some (.cells C t (0, 0))) : w.frozen? ⟨b, o, none⟩ = false := by
 simp [World.frozen?, h]
/- an index as Go has it: -1 for none -/
theorem gLt {α : Type} {l : List α} {k : Nat} (h : k < l.length) : ∃ x, l[k]? = some x := ⟨l[k], List.getElem?_eq_getElem h⟩
/- slices.Index at strings -/
end Go.Proofs.YtbicmjmcdnkjhaaGreatDoor
namespace Go
/- x, if it is w with new blocks alone; else w -/
noncomputable def World.grew (w x : World) : World := @ite _ (RowKit.Below w.heap.size w x) (Classical.propDecidable _) x w
end Go
namespace Go.Proofs.YtbicmjmcdnkjhaaGreatDoor
open Go.RowKit
theorem gBl (w x : World) : Below w.heap.size w (World.grew w x) := by
 unfold World.grew
 split
 · assumption
 · exact Below.refl _ _
theorem grew_of {w x : World} (h : Below w.heap.size w x) : World.grew w x = x := by
 unfold World.grew
 rw [if_pos h]
@[go_sem] theorem cell?_grew {w x : World} {b o : Nat} (h : b < w.heap.size) : (World.grew w x).cell? ⟨b, o, none⟩ = w.cell? ⟨b, o, none⟩ := (gBl w x).cell (p := ⟨b, o, none⟩) h
@[go_sem] theorem frozen?_grew {w x : World} {b o : Nat} (h : b < w.heap.size) : (World.grew w x).frozen? ⟨b, o, none⟩ = w.frozen? ⟨b, o, none⟩ := (gBl w x).frozen (p := ⟨b, o, none⟩) h
theorem wp_region_grew {P : Program} {id : Nat} {Q : Exit → Act → World → Prop} {a : Act} {w : World} {l : List Oper} (hm : P.follows .mixedOrders = true) (hB : Region.lexB .any l.toArray = true)
 (h : wpQuiet P l.toArray (fun w' => ∃ x, w' = World.grew w x) (fun a' => ∀ w', (∃ x, w' = World.grew w x) → Q .normal a' w') l a) : (Code.region id l.toArray true).wp P Q a w :=
 wp_region_quiet (C := fun w' => ∃ x, w' = World.grew w x) hm hB ⟨w.drew, (grew_of (Below.refl _ _).drew).symm⟩ (by simpa using h)
/- a callee's contract, met in such a world -/
theorem Calls_grew {P : Program} {f : FuncId} {args : Array Value} {w x : World} {v : Value} (h : Calls P f args (World.grew w x) fun e w' => e = .returned v ∧ Below (World.grew w x).heap.size (World.grew w x) w') :
 Calls P f args (World.grew w x) fun e w' => e = .returned v ∧ ∃ y, w' = World.grew w y :=
 h.mono fun _ w' ⟨he, hb⟩ => ⟨he, w', (grew_of ((gBl w x).trans (hb.mono (gBl w x).size))).symm⟩
/- a row of strings that the call owns -/
abbrev OwnS (w : World) (base : Nat) (v : Value) (l : List (List UInt8)) : Prop := w.ownsRow base 9 1 v l.length (l.map vs)
theorem OwnS.form {w : World} {base : Nat} {v : Value} {l : List (List UInt8)} (h : OwnS w base v l) : ∃ A cap, v = .slice A l.length cap ∧ l.length ≤ cap ∧ RdS w A l ∧ ∀ b o, A = some ⟨b, o, none⟩ → base ≤ b ∧ b < w.heap.size := by
 rcases h.2 with ⟨hv, h0⟩ | ⟨g, cap, cur, rfl, r2, r3, r4, r5, r6, r7⟩
 · refine ⟨none, 0, ?_, by omega, ?_, fun b o e => by cases e⟩
   · rw [hv, h0]
   · have := List.length_eq_zero_iff.1 h0
     subst this
     exact Sl.nil
 · refine ⟨_, cap, rfl, r4, ?_, fun b o e => by cases e; exact ⟨r2, lHp r3⟩⟩
   intro hne
   refine ⟨g, 0, rfl, lHp r3, fun k x hx j u hu => ?_⟩
   cases j with
   | succ j => simp at hu
   | zero =>
     simp at hu
     subst hu
     refine cOb r3 ?_
     have hk : (l.map vs)[k]? = some (vs x) := by simp [hx]
     rw [← r7, List.getElem?_take] at hk
     split at hk
     · rw [← Array.getElem?_toList]; simpa using hk
     · cases hk
theorem OwnS.keep {w w' : World} {base : Nat} {v : Value} {l : List (List UInt8)} (h : OwnS w base v l) (hk : ∀ b, base ≤ b → b < w.heap.size → w'.heap[b]? = w.heap[b]?) : OwnS w' base v l := by
 refine ⟨h.1, ?_⟩
 rcases h.2 with h | ⟨g, cap, cur, rfl, r2, r3, r4⟩
 · exact .inl h
 · exact .inr ⟨g, cap, cur, rfl, r2, (hk g r2 (lHp r3)).trans r3, r4⟩
theorem OwnS.nil {w : World} {base : Nat} : OwnS w base (.slice none 0 0) [] := ⟨rfl, .inl ⟨rfl, rfl⟩⟩
theorem OwnS.own {w : World} {base : Nat} {v : Value} {l : List (List UInt8)} (h : OwnS w base v l) : ∀ b, v.ownBlock = some b → base ≤ b ∧ b < w.heap.size := by
 rcases h.2 with ⟨hv, h0⟩ | ⟨g, cap, cur, rfl, r2, r3, r4⟩
 · intro b hb
   rw [hv] at hb
   simp [Value.ownBlock] at hb
 · intro b hb
   simp [Value.ownBlock] at hb
   subst hb
   exact ⟨r2, lHp r3⟩
theorem info_str : (Tryz.prog.info? 9).map (fun i => (i.zero, i.size, i.bytes)) = some (some (.string ⟨#[]⟩), 1, 16) := by kernel_rfl
/- w' is w with new blocks, and with changes in the blocks S alone; S': the blocks that are the writer's behind it -/
structure WrFr (S S' : Nat → Prop) (w w' : World) : Prop where
 os : w'.os = w.os
 tape : w'.tape = w.tape
 output : w'.output = w.output
 size : w.heap.size ≤ w'.heap.size
 block : ∀ k, k < w.heap.size → ¬ S k → w'.heap[k]? = w.heap[k]?
 sub : ∀ k, S' k → S k ∨ w.heap.size ≤ k
theorem WrFr.refl (S : Nat → Prop) (w : World) : WrFr S S w w := ⟨rfl, rfl, rfl, lR _, fun _ _ _ => rfl, fun _ h => Or.inl h⟩
theorem WrFr.of_below {w w' : World} (S : Nat → Prop) (h : Below w.heap.size w w') : WrFr S S w w' := ⟨h.os, h.tape, h.output, h.size, fun k hk _ => h.block k hk, fun _ h => Or.inl h⟩
theorem WrFr.trans {S S1 S2 : Nat → Prop} {a b c : World} (h : WrFr S S1 a b) (k : WrFr S1 S2 b c) : WrFr S S2 a c :=
 ⟨k.os.trans h.os, k.tape.trans h.tape, k.output.trans h.output, Nat.le_trans h.size k.size,
   fun i hi hn => (k.block i (Nat.lt_of_lt_of_le hi h.size) (fun hs => (h.sub i hs).elim hn (fun h' => absurd hi (Nat.not_lt.2 h')))).trans (h.block i hi hn),
   fun i hi => (k.sub i hi).elim (fun h1 => h.sub i h1) (fun h2 => Or.inr (Nat.le_trans h.size h2))⟩
theorem WrFr.box {S S' : Nat → Prop} {w w' : World} {b : Nat} {o : Obj} (h : WrFr S S' w w') (hb : w.heap[b]? = some o) (hn : ¬ S b) : w'.heap[b]? = some o ∧ ¬ S' b :=
 ⟨(h.block b (lHp hb) hn).trans hb, fun hs => (h.sub b hs).elim hn (fun h' => absurd (lHp hb) (Nat.not_lt.2 h'))⟩
theorem WrFr.alloc {S S' : Nat → Prop} {w w' : World} (h : WrFr S S' w w') (o : Obj) : WrFr S S' w (w'.alloc o) := h.trans (WrFr.of_below _ ((Below.refl _ _).alloc (lR _) _))
/- the writer: its block p, of type T; W: the world in which all began -/
structure WrV (W w : World) (p : Nat) (T : TypeId) (S : Nat → Prop) (v1 v2 : Value) (L N : List (List UInt8)) : Prop where
 is : w.heap[p]? = some (.cells #[v1, v2] T (0, 0))
 l : OwnS w 0 v1 L
 n : OwnS w 0 v2 N
 ol : ∀ b, v1.ownBlock = some b → S b ∧ b ≠ p
 on : ∀ b, v2.ownBlock = some b → S b ∧ b ≠ p ∧ v1.ownBlock ≠ some b
 mem : S p
 lt : ∀ k, S k → k < w.heap.size
 lo : ∀ k, S k → W.heap.size ≤ k
 below : Below W.heap.size W w
def Wr (W w : World) (p : Nat) (T : TypeId) (S : Nat → Prop) (L N : List (List UInt8)) : Prop := ∃ v1 v2, WrV W w p T S v1 v2 L N
theorem WrV.keep {W w w' : World} {p : Nat} {T : TypeId} {S : Nat → Prop} {v1 v2 : Value} {L N : List (List UInt8)} (h : WrV W w p T S v1 v2 L N) (hb : Below w.heap.size w w') : WrV W w' p T S v1 v2 L N :=
 ⟨(hb.block p (h.lt p h.mem)).trans h.is, h.l.keep (fun b _ hlt => hb.block b hlt), h.n.keep (fun b _ hlt => hb.block b hlt), h.ol, h.on, h.mem, fun k hk => Nat.lt_of_lt_of_le (h.lt k hk) hb.size, h.lo, h.below.trans (hb.mono h.below.size)⟩
theorem Wr.keep {W w w' : World} {p : Nat} {T : TypeId} {S : Nat → Prop} {L N : List (List UInt8)} (h : Wr W w p T S L N) (hb : Below w.heap.size w w') : Wr W w' p T S L N := by
 obtain ⟨v1, v2, h⟩ := h
 exact ⟨v1, v2, h.keep hb⟩
theorem Wr.alloc {W w : World} {p : Nat} {T : TypeId} {S : Nat → Prop} {L N : List (List UInt8)} (h : Wr W w p T S L N) (o : Obj) : Wr W (w.alloc o) p T S L N := h.keep ((Below.refl _ _).alloc (lR _) _)
theorem Wr.lt {W w : World} {p : Nat} {T : TypeId} {S : Nat → Prop} {L N : List (List UInt8)} (h : Wr W w p T S L N) : ∀ k, S k → k < w.heap.size := by
 obtain ⟨v1, v2, h⟩ := h
 exact h.lt
theorem Wr.fresh {W w : World} {p : Nat} {T : TypeId} {S : Nat → Prop} {L N : List (List UInt8)} (h : Wr W w p T S L N) : ¬ S w.heap.size := fun hs => Nat.lt_irrefl _ (h.lt _ hs)
theorem Wr.below {W w : World} {p : Nat} {T : TypeId} {S : Nat → Prop} {L N : List (List UInt8)} (h : Wr W w p T S L N) : Below W.heap.size W w := by
 obtain ⟨v1, v2, h⟩ := h
 exact h.below
theorem ownBlock_lt {w : World} {v : Value} {l : List (List UInt8)} (h : OwnS w 0 v l) {b : Nat} (hb : v.ownBlock = some b) : b < w.heap.size := (h.own b hb).2
theorem grown_set (w : World) (p o : Nat) (v : Value) : w.grownBy (w.setCell ⟨p, o, none⟩ v) (some p) := ⟨rfl, rfl, rfl, by simp, fun k hk hne => Below.heap_setCell _ _ _ _ (fun e => hne (by rw [e]))⟩
theorem OwnS.kept {w w' : World} {v : Value} {l : List (List UInt8)} {row : Option Nat} (h : OwnS w 0 v l) (hg : w.grownBy w' row) (hne : ∀ b, v.ownBlock = some b → some b ≠ row) : OwnS w' 0 v l := by
 refine World.ownsRow.kept h hg ?_
 cases hv : v.ownBlock with
 | none => exact Or.inl rfl
 | some b => exact Or.inr (hne b hv)
theorem set_block {w : World} {p o : Nat} {C : Array Value} {T : TypeId} {v : Value} (h : w.heap[p]? = some (.cells C T (0, 0))) : (w.setCell ⟨p, o, none⟩ v).heap[p]? = some (.cells (C.setIfInBounds o v) T (0, 0)) := by
 simp [World.setCell, Array.getElem?_modify, h]
/- words put behind the list -/
theorem WrV.put1 {W w w' : World} {p : Nat} {T : TypeId} {S : Nat → Prop} {v1 v2 v : Value} {L L' N : List (List UInt8)} (h : WrV W w p T S v1 v2 L N) (ho : OwnS w' 0 v L') (hg : w.grownBy w' v1.ownBlock)
 (hb : v.ownBlock = v1.ownBlock ∨ v.ownBlock = some w.heap.size) : WrV W (w'.setCell ⟨p, 0, none⟩ v) p T (fun k => S k ∨ v.ownBlock = some k) v v2 L' N ∧ WrFr S (fun k => S k ∨ v.ownBlock = some k) w (w'.setCell ⟨p, 0, none⟩ v) := by
 have hpl := h.lt p h.mem
 have hp : w'.heap[p]? = some (.cells #[v1, v2] T (0, 0)) := (hg.block p hpl (fun e => (h.ol p e.symm).2 rfl)).trans h.is
 have hvp : ∀ b, v.ownBlock = some b → b ≠ p := by
  intro b e
  rcases hb with e' | e'
  · rw [e'] at e; exact (h.ol b e).2
  · rw [e'] at e; injection e with e; omega
 have hsz : (w'.setCell ⟨p, 0, none⟩ v).heap.size = w'.heap.size := by simp
 have hws := hg.size
 have hbl : ∀ k, k < w.heap.size → ¬ S k → (w'.setCell ⟨p, 0, none⟩ v).heap[k]? = w.heap[k]? := fun k hk hn =>
  (Below.heap_setCell _ _ _ _ (fun (e : k = p) => hn (by rw [e]; exact h.mem))).trans (hg.block k hk (fun e => hn (h.ol k e.symm).1))
 refine ⟨⟨set_block hp, ho.kept (grown_set _ _ _ _) (fun b e e' => hvp b e (by injection e')), ?_, fun b e => ⟨Or.inr e, hvp b e⟩, fun b e => ⟨Or.inl (h.on b e).1, (h.on b e).2.1, fun e' => ?_⟩, Or.inl h.mem, fun k hk => ?_, fun k hk => ?_, ?_⟩, ?_⟩
 · refine (h.n.kept hg (fun b e e' => (h.on b e).2.2 e'.symm)).kept (grown_set _ _ _ _) (fun b e e' => (h.on b e).2.1 (by injection e'))
 · rcases hb with e2 | e2
   · rw [e2] at e'; exact (h.on b e).2.2 e'
   · rw [e2] at e'
     injection e' with e'
     have := ownBlock_lt h.n e
     omega
 · rw [hsz]
   rcases hk with hk | hk
   · have := h.lt k hk; omega
   · exact ownBlock_lt ho hk
 · rcases hk with hk | hk
   · exact h.lo k hk
   · rcases hb with e2 | e2
     · rw [e2] at hk; exact h.lo k (h.ol k hk).1
     · rw [e2] at hk
       injection hk with hk
       have := h.below.size
       omega
 · refine h.below.trans ⟨hg.os, hg.tape, hg.output, by rw [hsz]; exact hws, fun k hk => hbl k (by have := h.below.size; omega) (fun hs => by have := h.lo k hs; omega)⟩
 · refine ⟨hg.os, hg.tape, hg.output, by rw [hsz]; exact hws, hbl, fun k hk => ?_⟩
   rcases hk with hk | hk
   · exact Or.inl hk
   · rcases hb with e2 | e2
     · rw [e2] at hk; exact Or.inl (h.ol k hk).1
     · rw [e2] at hk
       injection hk with hk
       exact Or.inr (by omega)
/- names put behind the list of names -/
theorem WrV.put2 {W w w' : World} {p : Nat} {T : TypeId} {S : Nat → Prop} {v1 v2 v : Value} {L N N' : List (List UInt8)} (h : WrV W w p T S v1 v2 L N) (ho : OwnS w' 0 v N') (hg : w.grownBy w' v2.ownBlock)
 (hb : v.ownBlock = v2.ownBlock ∨ v.ownBlock = some w.heap.size) : WrV W (w'.setCell ⟨p, 1, none⟩ v) p T (fun k => S k ∨ v.ownBlock = some k) v1 v L N' ∧ WrFr S (fun k => S k ∨ v.ownBlock = some k) w (w'.setCell ⟨p, 1, none⟩ v) := by
 have hpl := h.lt p h.mem
 have hp : w'.heap[p]? = some (.cells #[v1, v2] T (0, 0)) := (hg.block p hpl (fun e => (h.on p e.symm).2.1 rfl)).trans h.is
 have hvp : ∀ b, v.ownBlock = some b → b ≠ p := by
  intro b e
  rcases hb with e' | e'
  · rw [e'] at e; exact (h.on b e).2.1
  · rw [e'] at e; injection e with e; omega
 have hsz : (w'.setCell ⟨p, 1, none⟩ v).heap.size = w'.heap.size := by simp
 have hws := hg.size
 have hbl : ∀ k, k < w.heap.size → ¬ S k → (w'.setCell ⟨p, 1, none⟩ v).heap[k]? = w.heap[k]? := fun k hk hn =>
  (Below.heap_setCell _ _ _ _ (fun (e : k = p) => hn (by rw [e]; exact h.mem))).trans (hg.block k hk (fun e => hn (h.on k e.symm).1))
 refine ⟨⟨set_block hp, ?_, ho.kept (grown_set _ _ _ _) (fun b e e' => hvp b e (by injection e')), fun b e => ⟨Or.inl (h.ol b e).1, (h.ol b e).2⟩, fun b e => ⟨Or.inr e, hvp b e, fun e' => ?_⟩, Or.inl h.mem, fun k hk => ?_, fun k hk => ?_, ?_⟩, ?_⟩
 · refine (h.l.kept hg (fun b e e' => (h.on b e'.symm).2.2 e)).kept (grown_set _ _ _ _) (fun b e e' => (h.ol b e).2 (by injection e'))
 · rcases hb with e2 | e2
   · rw [e2] at e; exact (h.on b e).2.2 e'
   · rw [e2] at e
     injection e with e
     have := ownBlock_lt h.l e'
     omega
 · rw [hsz]
   rcases hk with hk | hk
   · have := h.lt k hk; omega
   · exact ownBlock_lt ho hk
 · rcases hk with hk | hk
   · exact h.lo k hk
   · rcases hb with e2 | e2
     · rw [e2] at hk; exact h.lo k (h.on k hk).1
     · rw [e2] at hk
       injection hk with hk
       have := h.below.size
       omega
 · refine h.below.trans ⟨hg.os, hg.tape, hg.output, by rw [hsz]; exact hws, fun k hk => hbl k (by have := h.below.size; omega) (fun hs => by have := h.lo k hs; omega)⟩
 · refine ⟨hg.os, hg.tape, hg.output, by rw [hsz]; exact hws, hbl, fun k hk => ?_⟩
   rcases hk with hk | hk
   · exact Or.inl hk
   · rcases hb with e2 | e2
     · rw [e2] at hk; exact Or.inl (h.on k hk).1
     · rw [e2] at hk
       injection hk with hk
       exact Or.inr (by omega)
/- what a function of the writer answers -/
def WrPost (W w : World) (p : Nat) (T : TypeId) (S : Nat → Prop) (L N : List (List UInt8)) (e : Ending) (w' : World) : Prop := e = .returned (.tuple #[]) ∧ ∃ S', Wr W w' p T S' L N ∧ WrFr S S' w w'
end Go.Proofs.YtbicmjmcdnkjhaaGreatDoor
namespace Go.Proofs.YtbicmjmcdnkjhaaGreatDoor
/- What a parser of this kind answers depends on the tokens that it consumes, and on the next one alone. -/
def core (t : Tok) : Nat × List UInt8 × Nat := (t.kind, t.text, t.n)
/- behind what is read no word of F is asked for in vain -/
/- the head of what follows k tokens, where m further ones are consumed -/
/- one word of several, if it is next -/
/- the same, where what is not met by the words consumes -/
/- the words of conditions; those that may follow one -/
/- all words -/
/- With enough fuel a parser consumes, and its errors are ones. -/
/- behind a consuming parser one token less is at hand -/
/- More fuel makes no difference. -/
/- The lexer: its tokens, and how texts are joined. -/
theorem takeWhile_len {α : Type} (p : α → Bool) (l : List α) : (l.takeWhile p).length ≤ l.length := (List.takeWhile_prefix p).length_le
/- more fuel makes no difference -/
theorem lexOne_len {c : UInt8} {r : List UInt8} {k n v : Nat} (h : lexOne c r = .ok (k, n, v)) : 1 ≤ n ∧ n ≤ r.length + 1 := by
 have h1 := takeWhile_len wordB r
 have h2 := takeWhile_len digitB r
 have h3 : r.head? = some 61 → 1 ≤ r.length := by cases r <;> simp
 unfold lexOne at h
 repeat' (split at h)
 all_goals (first | cases h | skip)
 all_goals simp_all
 all_goals omega
theorem scan_fuel : ∀ (f g : Nat) (l : List UInt8) (p : Nat), l.length ≤ f → l.length ≤ g → scan f l p = scan g l p
 | 0, g, l, p, hf, hg => by
   have : l = [] := by simpa using hf
   subst this
   cases g <;> rfl
 | f + 1, 0, l, p, hf, hg => by
   have : l = [] := by simpa using hg
   subst this
   rfl
 | f + 1, g + 1, [], p, hf, hg => rfl
 | f + 1, g + 1, c :: r, p, hf, hg => by
   simp at hf hg
   simp only [scan]
   rw [scan_fuel f g r (p + 1) hf hg, scan_fuel f g (r.drop _) _ (by simp; omega) (by simp; omega)]
   cases h : lexOne c r with
   | error e => rfl
   | ok v =>
     obtain ⟨k, n, v⟩ := v
     simp only []
     rw [scan_fuel f g (r.drop (n - 1)) _ (by simp; omega) (by simp; omega)]
/- the scan without fuel -/
def sc (l : List UInt8) (p : Nat) : List Tok × Option (Nat × Nat) := scan l.length l p
theorem scan_sc (f : Nat) (l : List UInt8) (p : Nat) (h : l.length ≤ f) : scan f l p = sc l p := scan_fuel _ _ _ _ h (lR _)
theorem sc_nil (p : Nat) : sc [] p = ([], none) := rfl
theorem sc_cons (c : UInt8) (r : List UInt8) (p : Nat) : sc (c :: r) p =
 if blankB c then sc r (p + 1)
 else if c = 35 then sc (r.drop (r.takeWhile (· != 10)).length) (p + 1 + (r.takeWhile (· != 10)).length)
 else match lexOne c r with
  | .error e => ([], some (e, p))
  | .ok (kind, k, v) => (⟨kind, (c :: r).take k, v, p⟩ :: (sc (r.drop (k - 1)) (p + k)).1, (sc (r.drop (k - 1)) (p + k)).2) := by
 show scan (r.length + 1) (c :: r) p = _
 simp only [scan]
 rw [scan_sc r.length r _ (lR _), scan_sc r.length (r.drop (r.takeWhile (· != 10)).length) _ (by simp)]
 cases h : lexOne c r with
 | error e => rfl
 | ok v =>
   obtain ⟨k, n, v⟩ := v
   simp only []
   rw [scan_sc r.length (r.drop (n - 1)) _ (by simp)]
/- induction along the scan -/
theorem sc_ind {M : List UInt8 → Nat → Prop} (hn : ∀ p, M [] p)
 (hb : ∀ c r p, blankB c = true → M r (p + 1) → M (c :: r) p)
 (hh : ∀ r p, M (r.drop (r.takeWhile (· != 10)).length) (p + 1 + (r.takeWhile (· != 10)).length) → M (35 :: r) p)
 (he : ∀ c r p e, blankB c = false → c ≠ 35 → lexOne c r = .error e → M (c :: r) p)
 (ht : ∀ c r p k n v, blankB c = false → c ≠ 35 → lexOne c r = .ok (k, n, v) → M (r.drop (n - 1)) (p + n) → M (c :: r) p) : ∀ (m : Nat) (l : List UInt8) (p : Nat), l.length ≤ m → M l p
 | _, [], p, _ => hn p
 | 0, c :: r, p, h => by simp at h
 | m + 1, c :: r, p, h => by
   simp at h
   by_cases h1 : blankB c = true
   · exact hb c r p h1 (sc_ind hn hb hh he ht m r _ h)
   · have h1 : blankB c = false := by simpa using h1
     by_cases h2 : c = 35
     · subst h2; exact hh r p (sc_ind hn hb hh he ht m _ _ (by simp; omega))
     · cases h3 : lexOne c r with
       | error e => exact he c r p e h1 h2 h3
       | ok v =>
         obtain ⟨k, n, v⟩ := v
         exact ht c r p k n v h1 h2 h3 (sc_ind hn hb hh he ht m _ _ (by simp; omega))
theorem sc_blank {c : UInt8} (r : List UInt8) (p : Nat) (h : blankB c = true) : sc (c :: r) p = sc r (p + 1) := by rw [sc_cons, if_pos h]
theorem sc_hash (r : List UInt8) (p : Nat) : sc (35 :: r) p = sc (r.drop (r.takeWhile (· != 10)).length) (p + 1 + (r.takeWhile (· != 10)).length) := by
 rw [sc_cons, if_neg (by decide), if_pos rfl]
theorem sc_err {c : UInt8} {r : List UInt8} {e : Nat} (p : Nat) (h1 : blankB c = false) (h2 : c ≠ 35) (h3 : lexOne c r = .error e) : sc (c :: r) p = ([], some (e, p)) := by
 rw [sc_cons, if_neg (by simp [h1]), if_neg h2, h3]
theorem sc_tok {c : UInt8} {r : List UInt8} {k n v : Nat} (p : Nat) (h1 : blankB c = false) (h2 : c ≠ 35) (h3 : lexOne c r = .ok (k, n, v)) :
 sc (c :: r) p = (⟨k, (c :: r).take n, v, p⟩ :: (sc (r.drop (n - 1)) (p + n)).1, (sc (r.drop (n - 1)) (p + n)).2) := by
 rw [sc_cons, if_neg (by simp [h1]), if_neg h2, h3]
/- shifted -/
/- what follows a line feed is another text -/
theorem takeWhile_sep {α : Type} {p : α → Bool} {x : α} (hx : p x = false) (r b : List α) : (r ++ x :: b).takeWhile p = r.takeWhile p := by
 induction r with
 | nil => simp [hx]
 | cons y r ih => simp only [List.cons_append, List.takeWhile_cons, ih]
theorem lexOne_sep {c : UInt8} (r b : List UInt8) {x : UInt8} (hx : wordB x = false) (h61 : x ≠ 61) : lexOne c (r ++ x :: b) = lexOne c r := by
 have hd : digitB x = false := by revert hx; unfold wordB; cases digitB x <;> simp
 have h1 : (r ++ x :: b).takeWhile wordB = r.takeWhile wordB := takeWhile_sep hx r b
 have h2 : (r ++ x :: b).takeWhile digitB = r.takeWhile digitB := takeWhile_sep hd r b
 have hle : (r.takeWhile digitB).length ≤ r.length := takeWhile_len _ _
 have h3 : (((r ++ x :: b).drop (r.takeWhile digitB).length).head?.any wordB) = ((r.drop (r.takeWhile digitB).length).head?.any wordB) := by
  rw [List.drop_append_of_le_length hle]
  cases hq : r.drop (r.takeWhile digitB).length with
  | nil => simp [hx]
  | cons y q => rfl
 have h4 : ((r ++ x :: b).head? = some 61) = (r.head? = some 61) := by
  cases r with
  | nil => simp [h61]
  | cons y q => rfl
 unfold lexOne
 rw [h1, h2, h3]
 simp only [h4]
/- Tokens by themselves, their places, and texts that are cut at a token. -/
/- what a token is by itself -/
def TokOk (t : Tok) : Prop := ∃ c r, t.text = c :: r ∧ blankB c = false ∧ c ≠ 35 ∧ lexOne c r = .ok (t.kind, r.length + 1, t.n)
theorem takeWhile_take {α : Type} (p : α → Bool) (l : List α) (m : Nat) (h : (l.takeWhile p).length ≤ m) : (l.take m).takeWhile p = l.takeWhile p := by
 induction l generalizing m with
 | nil => simp
 | cons x r ih =>
   cases m with
   | zero =>
     have : (x :: r).takeWhile p = [] := by simpa using h
     rw [this]; rfl
   | succ m =>
     simp only [List.take_succ_cons, List.takeWhile_cons] at h ⊢
     split
     · rename_i hp
       rw [if_pos hp] at h
       rw [ih m (by simpa using h)]
     · rfl
theorem head_take {α : Type} (l : List α) (m : Nat) (h : 0 < m) : (l.take m).head? = l.head? := by
 cases l with
 | nil => simp
 | cons x r => obtain ⟨k, rfl⟩ : ∃ k, m = k + 1 := ⟨m - 1, by omega⟩; rfl
/- the token alone, or cut anywhere behind it -/
theorem lexOne_take {c : UInt8} {r : List UInt8} {k n v : Nat} (h : lexOne c r = .ok (k, n, v)) (m : Nat) (hm : n - 1 ≤ m) : lexOne c (r.take m) = .ok (k, n, v) := by
 unfold lexOne at h ⊢
 by_cases h1 : letterB c = true
 · rw [if_pos h1] at h ⊢
   split at h
   · cases h
   · rename_i hq
     injection h with h; injection h with ha h; injection h with hb hc
     have hle : (r.takeWhile wordB).length ≤ m := by omega
     rw [takeWhile_take _ _ _ hle, if_neg hq]
     subst ha hb hc; rfl
 · rw [if_neg h1] at h ⊢
   by_cases h2 : digitB c = true
   · rw [if_pos h2] at h ⊢
     split at h
     · cases h
     · rename_i hq
       injection h with h; injection h with ha h; injection h with hb hc
       have hle : (r.takeWhile digitB).length ≤ m := by omega
       have hq2 : ¬ (((r.take m).drop (r.takeWhile digitB).length).head?.any wordB) = true := by
        rw [List.drop_take]
        rcases Nat.eq_zero_or_pos (m - (r.takeWhile digitB).length) with h0 | h0
        · rw [h0]; simp
        · rw [head_take _ _ h0]; exact fun h => hq (.inr h)
       rw [takeWhile_take _ _ _ hle, if_neg (by intro h; rcases h with h | h; exact hq (.inl h); exact hq2 h)]
       subst ha hb hc; rfl
   · rw [if_neg h2] at h ⊢
     by_cases h3 : symB c = true
     · rw [if_pos h3] at h ⊢; exact h
     · rw [if_neg h3] at h ⊢
       by_cases h4 : preB c = true
       · rw [if_pos h4] at h ⊢
         by_cases h5 : r.head? = some 61
         · rw [if_pos h5] at h
           injection h with h; injection h with ha h; injection h with hb hc
           rw [head_take _ _ (by omega), if_pos h5]
           subst ha hb hc; rfl
         · rw [if_neg h5] at h
           have : ¬ (r.take m).head? = some 61 := by
            rcases Nat.eq_zero_or_pos m with h0 | h0
            · subst h0; simp
            · rw [head_take _ _ h0]; exact h5
           rw [if_neg this]; exact h
       · rw [if_neg h4] at h ⊢
         by_cases h5 : c = 33
         · rw [if_pos h5] at h ⊢
           by_cases h6 : r.head? = some 61
           · rw [if_pos h6] at h
             injection h with h; injection h with ha h; injection h with hb hc
             rw [head_take _ _ (by omega), if_pos h6]
             subst ha hb hc; rfl
           · rw [if_neg h6] at h; cases h
         · rw [if_neg h5] at h; cases h
theorem tok_ok {c : UInt8} {r : List UInt8} {k n v : Nat} (p : Nat) (h1 : blankB c = false) (h2 : c ≠ 35) (h3 : lexOne c r = .ok (k, n, v)) : TokOk ⟨k, (c :: r).take n, v, p⟩ := by
 have hn := lexOne_len h3
 obtain ⟨m, rfl⟩ : ∃ m, n = m + 1 := ⟨n - 1, by omega⟩
 refine ⟨c, r.take m, rfl, h1, h2, ?_⟩
 have := lexOne_take h3 m (by omega)
 rw [this]
 have : (r.take m).length = m := by simp; omega
 rw [this]
theorem sc_ok (l : List UInt8) (p : Nat) : ∀ t ∈ (sc l p).1, TokOk t := by
 refine sc_ind (M := fun l p => ∀ t ∈ (sc l p).1, TokOk t) ?_ ?_ ?_ ?_ ?_ l.length l p (lR _)
 · intro p t h; simp [sc_nil] at h
 · intro c r p h ih; rw [sc_blank _ _ h]; exact ih
 · intro r p ih; rw [sc_hash]; exact ih
 · intro c r p e h1 h2 h3 t h; rw [sc_err _ h1 h2 h3] at h; simp at h
 · intro c r p j n v h1 h2 h3 ih t h
   rw [sc_tok _ h1 h2 h3] at h
   rcases List.mem_cons.1 h with rfl | h
   · exact tok_ok p h1 h2 h3
   · exact ih t h
/- where the tokens lie -/
/- a place belongs to one token -/
/- cut at a token: before it, behind it -/
/- the tokens, one line feed behind each -/
/- The laws of north in plain words: gaps, the first error, the ends. -/
theorem lexF_ok {l : List UInt8} {ts : List Tok} (h : lexF l = .ok ts) : sc l 0 = (ts, none) ∧ ts.length ≤ 5000 ∧ l.length ≤ 20000 := by
 unfold lexF at h
 rw [show scan l.length l 0 = sc l 0 from rfl] at h
 split at h
 · cases h
 · split at h
   · cases h
   · rename_i hd
     split at h
     · cases h
     · rename_i hn
       injection h with h
       have hlen := congrArg List.length hd
       simp at hlen
       refine ⟨Prod.ext h hn, ?_, by omega⟩
       rw [← h]; omega
theorem lexF_mk {l : List UInt8} {ts : List Tok} (h1 : sc l 0 = (ts, none)) (h2 : ts.length ≤ 5000) (h3 : l.length ≤ 20000) : lexF l = .ok ts := by
 unfold lexF
 rw [show scan l.length l 0 = sc l 0 from rfl, if_neg (by omega), h1]
 simp only []
 rw [List.drop_of_length_le h2]
/- tokens that are the same but for their places -/
/- the first error -/
/- the ends -/
end Go.Proofs.YtbicmjmcdnkjhaaGreatDoor
