/- Short names. -/
import Derived.Lib.Hide
import Derived.Test.YtbicmjmcdnkjhaaGreatDoorRows
import Derived.WalkSpells
import Derived.WalkLawsBesides
import Derived.Lib.IndexMore
import Derived.Test.YtbicmjmcdnkjhaaGreatDoorShelf
import Derived.BigQuiet
set_option linter.unusedVariables false
set_option linter.unusedSimpArgs false
namespace Go.Proofs.YtbicmjmcdnkjhaaGreatDoor
section
open Go.RowKit
theorem Hi {p : Prop} (h : p) : Hid p := Lib.hid h
theorem lR (n : Nat) : n <= n := Nat.le_refl n
end
section
structure Tok where
 kind : Nat
 text : List UInt8
 n : Nat
 pos : Nat
abbrev Qa := List UInt8
inductive Qb where
 | mk (op : Nat) (name : List UInt8) (cmp n : Nat) (kids : List Qb)
structure Qf where
 id : List UInt8
 rank : Nat
 kind : Nat
 name : List UInt8
 value : Nat
 cond : Qb
 exc : List (List UInt8)
 beg : Qb
 fin : Qb
 aga : Qb
def Ke (c : UInt8) : Bool := (97 <= c && c <= 122) || (65 <= c && c <= 90)
def digitB (c : UInt8) : Bool := 48 <= c && c <= 57
def wordB (c : UInt8) : Bool := Ke c || digitB c || c == 95
def Z2 (c : UInt8) : Bool := c == 32 || c == 9 || c == 10
def qch (c : UInt8) : Bool := c == 59 || c == 44 || c == 46 || c == 58 || c == 40 || c == 41 || c == 91 || c == 93 || c == 123 || c == 125 || c == 61
def qcz (c : UInt8) : Bool := c == 60 || c == 62
def B6 (l : List UInt8) : Nat := l.foldl (fun a c => 10 * a + (c.toNat - 48)) 0
def Qt (c : UInt8) (r : List UInt8) : Except Nat (Nat × Nat × Nat) :=
 if Ke c then
  if 24 < (r.takeWhile wordB).length + 1 then .error 2 else .ok (1, (r.takeWhile wordB).length + 1, 0)
 else if digitB c then
  if 7 < (r.takeWhile digitB).length + 1 \/ ((r.drop (r.takeWhile digitB).length).head?.any wordB) = true then .error 4
  else .ok (2, (r.takeWhile digitB).length + 1, B6 (c :: r.takeWhile digitB))
 else if qch c then .ok (3, 1, 0)
 else if qcz c then (if r.head? = some 61 then .ok (3, 2, 0) else .ok (3, 1, 0))
 else if c = 33 then (if r.head? = some 61 then .ok (3, 2, 0) else .error 3)
 else .error 3
def Uh : Nat -> List UInt8 -> Nat -> List Tok × Option (Nat × Nat)
 | 0, _, _ => ([], none)
 | _ + 1, [], _ => ([], none)
 | f + 1, c :: r, p =>
   if Z2 c then Uh f r (p + 1)
   else if c = 35 then Uh f (r.drop (r.takeWhile (· != 10)).length) (p + 1 + (r.takeWhile (· != 10)).length)
   else match Qt c r with
    | .error e => ([], some (e, p))
    | .ok (kind, k, v) => (⟨kind, (c :: r).take k, v, p⟩ :: (Uh f (r.drop (k - 1)) (p + k)).1, (Uh f (r.drop (k - 1)) (p + k)).2)
def Zr (l : List UInt8) : Except (Nat × Int) (List Tok) :=
 if 20000 < l.length then .error (2, -1)
 else match (Uh l.length l 0).1.drop 5000 with
  | t :: _ => .error (2, t.pos)
  | [] => match (Uh l.length l 0).2 with
    | some (e, p) => .error (e, p)
    | none => .ok (Uh l.length l 0).1
abbrev R (α : Type) := Except (Nat × List Tok) (α × List Tok)
def Qc {α β : Type} (p : R α) (f : α -> List Tok -> R β) : R β := match p with | .error e => .error e | .ok (x, r) => f x r
def Z1 (l : List Tok) : Nat := match l with | [] => 6 | _ :: _ => 5
def failR {α : Type} (l : List Tok) : R α := .error (Z1 l, l)
def Yg (t : Tok) : Bool := t.kind == 1 || t.kind == 3
def Qw : List (List UInt8) := [[99, 111, 110, 115, 116, 105, 116, 117, 116, 105, 111, 110], [97, 99, 116], [114, 101, 103, 117, 108, 97, 116, 105, 111, 110], [98, 121, 108, 97, 119], [100, 101, 102, 105, 110, 101], [97, 110, 115, 119, 101, 114], [105, 115], [105, 102], [110, 111, 116, 119, 105, 116, 104, 115, 116, 97, 110, 100, 105, 110, 103], [102, 114, 111, 109], [117, 110, 116, 105, 108], [97, 103, 97, 105, 110], [111, 114], [97, 110, 100], [110, 111, 116], [116, 114, 117, 101], [102, 97, 108, 115, 101], [97, 108, 119, 97, 121, 115], [110, 101, 118, 101, 114], [100, 97, 121], [111, 114, 100, 101, 114], [101, 118, 101, 110, 116], [98, 101, 103, 117, 110], [111, 118, 101, 114]]
def Wq (s : List UInt8) : Bool := Qw.contains s
def Xb (ws : List (List UInt8)) (l : List Tok) : Option Nat × List Tok :=
 match l with
 | [] => (none, [])
 | t :: r => if Yg t then (match ws.idxOf? t.text with | some i => (some i, r) | none => (none, t :: r)) else (none, t :: r)
def Jc {α : Type} (ws : List (List UInt8)) (l : List Tok) (yes : Nat -> List Tok -> R α) (no : List Tok -> R α) : R α :=
 match Xb ws l with
 | (some i, r) => yes i r
 | (none, r) => no r
def Q3 (ws : List (List UInt8)) (l : List Tok) : R Nat := Jc ws l (fun i r => .ok (i, r)) failR
def Jb (l : List Tok) : R (List UInt8) :=
 match l with
 | [] => failR []
 | t :: r => if t.kind == 1 && !Wq t.text then .ok (t.text, r) else failR (t :: r)
def Q6 (most : Nat) (l : List Tok) : R Nat :=
 match l with
 | [] => failR []
 | t :: r => if t.kind == 2 then (if most < t.n then .error (10, t :: r) else .ok (t.n, r)) else failR (t :: r)
def severalL {α : Type} (one : List Tok -> R α) (w : List UInt8) : Nat -> List Tok -> R (List α)
 | 0, l => .error (0, l)
 | k + 1, l => Qc (one l) fun x r => Jc [w] r (fun _ r' => Qc (severalL one w k r') fun xs r'' => .ok (x :: xs, r'')) (fun r' => .ok ([x], r'))
def Gm (op : Nat) (l : List Qb) : Qb := match l with | [x] => x | l => .mk op [] 0 0 l
def severalF (one : List Tok -> R Qb) (w : List UInt8) (op : Nat) (n : Nat) (l : List Tok) : R Qb := Qc (severalL one w n l) fun xs r => .ok (Gm op xs, r)
def Y7 (one : List Tok -> R Qb) (op n : Nat) : List Tok -> R Qb := severalF one [97, 110, 100] op n
def orF (one : List Tok -> R Qb) (op aH n : Nat) : List Tok -> R Qb := severalF (Y7 one op n) [111, 114] aH n
def Jj : Nat -> List Tok -> R Qb
 | 0, l => .error (0, l)
 | n + 1, l => Jc [[110, 111, 116], [40], [116, 114, 117, 101], [102, 97, 108, 115, 101]] l
     (fun i r => match i with
       | 0 => Qc (Jj n r) fun f r' => .ok (.mk 5 [] 0 0 [f], r')
       | 1 => Qc (orF (Jj n) 6 7 n r) fun f r' => Qc (Q3 [[41]] r') fun _ r'' => .ok (f, r'')
       | 2 => .ok (.mk 1 [] 0 0 [], r)
       | _ => .ok (.mk 2 [] 0 0 [], r))
     (fun r => Qc (Jb r) fun s r' => Jc [[61], [33, 61], [60], [60, 61], [62], [62, 61]] r'
       (fun c r'' => Qc (Q6 1000000 r'') fun v r3 => .ok (.mk 3 s (1 + c) v [], r3))
       (fun r'' => .ok (.mk 4 s 0 0 [], r'')))
def X8 : Nat -> List Tok -> R Qb
 | 0, l => .error (0, l)
 | n + 1, l => Qc (Q3 [[97, 108, 119, 97, 121, 115], [110, 101, 118, 101, 114], [100, 97, 121], [40], [111, 114, 100, 101, 114], [101, 118, 101, 110, 116], [98, 101, 103, 117, 110], [111, 118, 101, 114]] l) fun i r =>
     match i with
     | 0 => .ok (.mk 1 [] 0 0 [], r)
     | 1 => .ok (.mk 2 [] 0 0 [], r)
     | 2 => Qc (Q6 1000000 r) fun v r' => .ok (.mk 3 [] 0 v [], r')
     | 3 => Qc (orF (X8 n) 8 9 n r) fun f r' => Qc (Q3 [[41]] r') fun _ r'' => .ok (f, r'')
     | k + 4 => Qc (Jb r) fun s r' => .ok (.mk (4 + k) s 0 0 [], r')
def Rl (n : Nat) : List Tok -> R Qb := orF (Jj n) 6 7 n
def Jk (n : Nat) : List Tok -> R Qb := orF (X8 n) 8 9 n
mutual
def Qb.size : Qb -> Nat
 | .mk _ _ _ _ ks => 1 + sizes ks
def sizes : List Qb -> Nat
 | [] => 0
 | t :: r => t.size + sizes r
end
mutual
def Qb.deep : Qb -> Nat
 | .mk _ _ _ _ ks => deeps ks + 1
def deeps : List Qb -> Nat
 | [] => 0
 | t :: r => max t.deep (deeps r)
end
def Js {α : Type} (l : List Tok) (e : Nat) (x : R α) : R α := if e = 0 then x else .error (e, l)
def Wn (x : Qb) : Nat := if 20 < x.deep \/ 200 < x.size then 2 else 0
def Zn (p : List Tok -> R Qb) (l : List Tok) : R Qb := Qc (p l) fun x r => Js l (Wn x) (.ok (x, r))
def Ym (n : Nat) (w : List UInt8) (op : Nat) (l : List Tok) : R Qb := Jc [w] l (fun _ r => Zn (Jk n) r) (fun r => .ok (.mk op [] 0 0 [], r))
def Xv (out : List (List UInt8)) (s : List UInt8) : Nat := if out.contains s then 9 else if out.length = 20 then 2 else 0
def Zf : Nat -> List (List UInt8) -> List Tok -> R (List (List UInt8))
 | 0, _, l => .error (0, l)
 | n + 1, out, l => Qc (Jb l) fun s r =>
     Js l (Xv out s) <| Jc [[44]] r (fun _ r' => Zf n (out ++ [s]) r') (fun r' => .ok (out ++ [s], r'))
def K3 (l : List Tok) : R (Nat × List UInt8 × Nat) :=
 Qc (Q3 [[100, 101, 102, 105, 110, 101], [97, 110, 115, 119, 101, 114]] l) fun i r => match i with
  | 0 => Qc (Jb r) fun s r' => .ok ((1, s, 0), r')
  | _ => Qc (Jb r) fun s r' => Qc (Q3 [[105, 115]] r') fun _ r'' => Qc (Q6 1000000 r'') fun v r3 => .ok ((2, s, v), r3)
def ifF (n : Nat) (l : List Tok) : R Qb := Jc [[105, 102]] l (fun _ r => Zn (Rl n) r) (fun r => .ok (.mk 1 [] 0 0 [], r))
def Kx (l : List Tok) : R (List (List UInt8)) := Jc [[110, 111, 116, 119, 105, 116, 104, 115, 116, 97, 110, 100, 105, 110, 103]] l (fun _ r => Zf 22 [] r) (fun r => .ok ([], r))
def K6 (n : Nat) (l : List Tok) : R Qf :=
 Qc (Q3 [[99, 111, 110, 115, 116, 105, 116, 117, 116, 105, 111, 110], [97, 99, 116], [114, 101, 103, 117, 108, 97, 116, 105, 111, 110], [98, 121, 108, 97, 119]] l) fun rank r1 =>
 Qc (Jb r1) fun id r2 =>
 Qc (Q3 [[58]] r2) fun _ r3 =>
 Qc (K3 r3) fun k r4 =>
 Qc (ifF n r4) fun cond r5 =>
 Qc (Kx r5) fun exc r6 =>
 Qc (Ym n [102, 114, 111, 109] 1 r6) fun beg r7 =>
 Qc (Ym n [117, 110, 116, 105, 108] 2 r7) fun fin r8 =>
 Qc (Ym n [97, 103, 97, 105, 110] 2 r8) fun aga r9 =>
 .ok (⟨id, 1 + rank, k.1, k.2.1, k.2.2, cond, exc, beg, fin, aga⟩, r9)
def Qk (n : Nat) (l : List Tok) : R Qf := Qc (K6 n l) fun p r => Qc (Q3 [[46]] r) fun _ r' => .ok (p, r')
def Q4 {α : Type} (p : R α) : R α := Qc p fun x r => match r with | [] => .ok (x, []) | _ :: _ => failR r
def Uo : Nat := 6000
def Xd (fin : Nat) (l : List Tok) : Nat := match l with | [] => fin | t :: _ => t.pos
def Qu (l : List UInt8) : Except (Nat × Int) Qf :=
 match Zr l with
 | .error e => .error e
 | .ok ts => match Q4 (Qk Uo ts) with
   | .error (e, s) => .error (e, Xd l.length s)
   | .ok (p, _) => .ok p
end
set_option maxRecDepth 20000
set_option maxHeartbeats 400000
section
open Go.RowKit
abbrev vs (l : List UInt8) : Value := .string ⟨l.toArray⟩
def Sl {α : Type} (cs : α -> List Value) (s : Nat) (w : World) (A : Option Addr) (l : List α) : Prop :=
 l ≠ [] -> ∃ b o, A = some ⟨b, o, none⟩ /\ b < w.heap.size /\ ∀ k x, l[k]? = some x -> ∀ j v, (cs x)[j]? = some v -> w.cell? ⟨b, o + k * s + j, none⟩ = some v
theorem Sl.below {α : Type} {cs : α -> List Value} {s : Nat} {w w' : World} {A : Option Addr} {l : List α} (h : Sl cs s w A l) (hb : Below w.heap.size w w') : Sl cs s w' A l := by
 intro hl; obtain ⟨b, o, hA, aB, hc⟩ := h hl; exact ⟨b, o, hA, Nat.lt_of_lt_of_le aB hb.size, fun k x hx j v hv => (hb.cell (p := ⟨b, _, none⟩) aB).trans (hc k x hx j v hv)⟩
theorem cOh {w w' : World} {b : Nat} (h : w'.heap[b]? = w.heap[b]?) (o : Nat) : w'.cell? ⟨b, o, none⟩ = w.cell? ⟨b, o, none⟩ := World.cell?_of_block (a := ⟨b, o, none⟩) h
theorem Sl.keep {α : Type} {cs : α -> List Value} {s : Nat} {w w' : World} {A : Option Addr} {l : List α} (h : Sl cs s w A l) (hs : w.heap.size <= w'.heap.size)
 (hk : ∀ b o, A = some ⟨b, o, none⟩ -> b < w.heap.size -> w'.heap[b]? = w.heap[b]?) : Sl cs s w' A l := by
 intro hl; obtain ⟨b, o, hA, aB, hc⟩ := h hl; exact ⟨b, o, hA, Nat.lt_of_lt_of_le aB hs, fun k x hx j v hv => (cOh (hk b o hA aB) _).trans (hc k x hx j v hv)⟩
theorem Sl.tail {α : Type} {cs : α -> List Value} {s : Nat} {w : World} {b o : Nat} {x : α} {l : List α} (h : Sl cs s w (some ⟨b, o, none⟩) (x :: l)) : Sl cs s w (some ⟨b, o + s, none⟩) l := by
 intro hl; obtain ⟨b', o', hA, aB, hc⟩ := h (by simp); cases hA; refine ⟨b, o + s, rfl, aB, fun k y hy j v hv => ?_⟩; have := hc (k + 1) y (by simpa using hy) j v hv; rwa [Nat.add_mul, Nat.one_mul, Nat.add_comm (k * s) s, <- Nat.add_assoc] at this
theorem Sl.nil {α : Type} {cs : α -> List Value} {s : Nat} {w : World} {A : Option Addr} : Sl cs s w A [] := fun h => absurd rfl h
def RdS (w : World) (A : Option Addr) (l : List (List UInt8)) : Prop := Sl (fun s => [vs s]) 1 w A l
theorem RdS.below {w w' : World} {A : Option Addr} {l : List (List UInt8)} (h : RdS w A l) (hb : Below w.heap.size w w') : RdS w' A l := Sl.below h hb
theorem RdS.item {w : World} {A : Option Addr} {l : List (List UInt8)} (h : RdS w A l) {k : Nat} {x : List UInt8} (hx : l[k]? = some x) :
 ∃ b o, A = some ⟨b, o, none⟩ /\ b < w.heap.size /\ w.cell? ⟨b, o + k, none⟩ = some (vs x) := by
 obtain ⟨b, o, hA, aB, hc⟩ := h (by rintro rfl; simp at hx); have := hc k x hx 0 _ rfl; exact ⟨b, o, hA, aB, by simpa using this⟩
abbrev Tok.cells (t : Tok) : List Value := [.int .i64 t.kind, vs t.text, .int .i64 t.n, .int .i64 t.pos]
abbrev Tok.agg (t : Tok) : Value := .agg #[.int .i64 t.kind, vs t.text, .int .i64 t.n, .int .i64 t.pos]
def RdT (w : World) (A : Option Addr) (l : List Tok) : Prop := Sl Tok.cells 4 w A l
theorem RdT.below {w w' : World} {A : Option Addr} {l : List Tok} (h : RdT w A l) (hb : Below w.heap.size w w') : RdT w' A l := Sl.below h hb
theorem RdT.head {w : World} {A : Option Addr} {t : Tok} {l : List Tok} (h : RdT w A (t :: l)) : ∃ b o, A = some ⟨b, o, none⟩ /\ b < w.heap.size /\ w.cell? ⟨b, o, none⟩ = some (.int .i64 t.kind) /\ w.cell? ⟨b, o + 1, none⟩ = some (vs t.text) /\ w.cell? ⟨b, o + 2, none⟩ = some (.int .i64 t.n) /\ w.cell? ⟨b, o + 3, none⟩ = some (.int .i64 t.pos) /\ RdT w (some ⟨b, o + 4, none⟩) l := by
 obtain ⟨b, o, rfl, aB, hc⟩ := id h (by simp); have := hc 0 t rfl; exact ⟨b, o, rfl, aB, by simpa using this 0 _ rfl, by simpa using this 1 _ rfl, by simpa using this 2 _ rfl, by simpa using this 3 _ rfl, h.tail⟩
structure C9 (t : Tok) : Prop where
 kind : t.kind = 1 \/ t.kind = 2 \/ t.kind = 3
 len : t.text.length <= 30
 num : t.n <= 10000000
 pos : t.pos <= 1000000
 nospace : t.kind = 1 -> ∀ c ∈ t.text, c ≠ 32
structure Eff (p : Nat) (w w' : World) : Prop where
 os : w'.os = w.os
 tape : w'.tape = w.tape
 output : w'.output = w.output
 size : w.heap.size <= w'.heap.size
 block : ∀ k, k < w.heap.size -> k ≠ p -> w'.heap[k]? = w.heap[k]?
theorem Eff.refl (p : Nat) (w : World) : Eff p w w := ⟨rfl, rfl, rfl, lR _, fun _ _ _ => rfl⟩
theorem Eff.of_below {p : Nat} {w w' : World} (h : Below w.heap.size w w') : Eff p w w' := ⟨h.os, h.tape, h.output, h.size, fun k hk _ => h.block k hk⟩
theorem Eff.trans {p : Nat} {a b c : World} (h : Eff p a b) (k : Eff p b c) : Eff p a c :=
 ⟨k.os.trans h.os, k.tape.trans h.tape, k.output.trans h.output, Nat.le_trans h.size k.size, fun i hi hn => (k.block i (Nat.lt_of_lt_of_le hi h.size) hn).trans (h.block i hi hn)⟩
theorem Eff.alloc {p : Nat} {a b : World} (h : Eff p a b) (o : Obj) : Eff p a (b.alloc o) := h.trans (Eff.of_below ((Below.refl _ _).alloc (lR _) _))
theorem Eff.setCell {p : Nat} {a b : World} (h : Eff p a b) (q : Addr) (hq : q.block = p \/ a.heap.size <= q.block) (v : Value) : Eff p a (b.setCell q v) := by
 refine ⟨h.os, h.tape, h.output, ?_, fun i hi hn => ?_⟩
 · have := h.size; simpa using this
 · rw [<- h.block i hi hn]; exact Below.heap_setCell _ _ _ _ (by rcases hq with e | e <;> omega)
theorem Eff.cell {p : Nat} {w w' : World} (h : Eff p w w') {b o : Nat} {v : Value} (hc : w.cell? ⟨b, o, none⟩ = some v) (hb : b ≠ p) : w'.cell? ⟨b, o, none⟩ = some v :=
 (cOh (h.block b (World.block_lt_of_cell? _ _ hc) hb) o).trans hc
theorem rSc {w : World} {g o : Nat} {cur : Array Value} {t : TypeId} {u : Value} (hh : w.heap[g]? = some (.cells cur t (0, 0))) : (w.setCell ⟨g, o, none⟩ u).heap[g]? = some (.cells (cur.setIfInBounds o u) t (0, 0)) := by
 simp [World.setCell, Array.getElem?_modify, hh]
structure PS (w : World) (p fin : Nat) (l : List Tok) : Prop where
 is : ∃ A c, w.heap[p]? = some (.cells #[.slice A l.length c, .int .i64 fin] 87 (0, 0)) /\ RdT w A l /\ (∀ b o, A = some ⟨b, o, none⟩ -> b < p) /\ l.length <= c /\ c <= 9223372036854775807
 fit : ∀ t ∈ l, C9 t
 mx : ∃ m, w.cell? ⟨2, 0, none⟩ = some (.int .i64 m)
 ne : 2 < p
 bound : fin <= 1000000
theorem lHp {w : World} {b : Nat} {x : Obj} (h : w.heap[b]? = some x) : b < w.heap.size := by
 rcases Nat.lt_or_ge b w.heap.size with h' | h'
 · exact h'
 · rw [Array.getElem?_eq_none h'] at h; cases h
theorem PS.lt {w : World} {p fin : Nat} {l : List Tok} (h : PS w p fin l) : p < w.heap.size := by obtain ⟨A, c, hh, _⟩ := h.is; exact lHp hh
theorem PS.below {w w' : World} {p fin : Nat} {l : List Tok} (h : PS w p fin l) (hb : Below w.heap.size w w') : PS w' p fin l := by
 obtain ⟨A, c, hh, hr, hn, h1, h2⟩ := h.is; obtain ⟨m, hm⟩ := h.mx; exact ⟨⟨A, c, (hb.block p (lHp hh)).trans hh, hr.below hb, hn, h1, h2⟩, h.fit, ⟨m, (hb.cell (p := ⟨_, 0, none⟩) (World.block_lt_of_cell? _ _ hm)).trans hm⟩, h.ne, h.bound⟩
theorem PS.keep {w w' : World} {p fin : Nat} {l : List Tok} (h : PS w p fin l) (hs : w.heap.size <= w'.heap.size) (hk : ∀ b, b <= p -> w'.heap[b]? = w.heap[b]?) : PS w' p fin l := by
 obtain ⟨A, c, hh, hr, hn, h1, h2⟩ := h.is; obtain ⟨m, hm⟩ := h.mx; have aF := h.ne; exact ⟨⟨A, c, (hk p (lR _)).trans hh, Sl.keep hr hs (fun b o hA _ => hk b (Nat.le_of_lt (hn b o hA))), hn, h1, h2⟩, h.fit, ⟨m, (cOh (hk _ (Nat.le_of_lt aF)) 0).trans hm⟩, h.ne, h.bound⟩
theorem cOb {w : World} {b o : Nat} {C : Array Value} {t : TypeId} {fr : Nat × Nat} {v : Value} (h : w.heap[b]? = some (.cells C t fr)) (hv : C[o]? = some v) : w.cell? ⟨b, o, none⟩ = some v := by
 simp [World.cell?, h, hv]
theorem fOb {w : World} {b o : Nat} {C : Array Value} {t : TypeId} (h : w.heap[b]? = some (.cells C t (0, 0))) : w.frozen? ⟨b, o, none⟩ = false := by
 simp [World.frozen?, h]
def idx (o : Option Nat) : Int := o.elim (-1) fun i => (i : Int)
theorem gLt {α : Type} {l : List α} {k : Nat} (h : k < l.length) : ∃ x, l[k]? = some x := ⟨l[k], List.getElem?_eq_getElem h⟩
theorem Cw {α : Type} {l : List α} {p : α -> Bool} {k : Nat} {x : α} (hx : l[k]? = some x) (hp : p x = true) (aC : ∀ (j : Nat) y, l[j]? = some y -> j < k -> p y = false) : l.findIdx? p = some k := by
 obtain ⟨hk, rfl⟩ := List.getElem?_eq_some_iff.1 hx; rw [List.findIdx?_eq_some_iff_getElem]; refine ⟨hk, hp, fun j hj => ?_⟩; rw [aC j l[j] (List.getElem?_eq_getElem (by omega)) hj]; simp
theorem Cx {α : Type} {l : List α} {p : α -> Bool} (aC : ∀ (j : Nat) y, l[j]? = some y -> j < l.length -> p y = false) : l.findIdx? p = none := by
 rw [List.findIdx?_eq_none_iff]; intro x hx; obtain ⟨j, hj⟩ := List.mem_iff_getElem?.1 hx; exact aC j x hj (List.getElem?_eq_some_iff.1 hj).1
theorem qak {α : Type} {l : List α} {p : α -> Bool} {k : Nat} {x : α} (hx : l[k]? = some x) (hp : p x = false) (aC : ∀ (j : Nat) y, l[j]? = some y -> j < k -> p y = false) : ∀ (j : Nat) y, l[j]? = some y -> j < k + 1 -> p y = false := by
 intro j y hy hj; rcases Nat.lt_succ_iff_lt_or_eq.1 hj with h | rfl
 · exact aC j y hy h
 · rw [hx] at hy; cases hy; exact hp
def ixS (l : List (List UInt8)) (s : List UInt8) : Option Nat := l.findIdx? fun x => s == x
theorem qgc (l : List (List UInt8)) (s : List UInt8) : ixS l s = l.idxOf? s := by
 unfold ixS List.idxOf?
 congr 1
 funext x
 exact BEq.comm
theorem U7 (l : List (List UInt8)) (A : Option Addr) (c : Nat) (s : List UInt8) (w : World) (hr : RdS w A l) (hl : l.length <= maxLen) :
 Calls Tryz.prog 120 #[.slice A l.length c, vs s] w fun e w' => e = .returned (.int .i64 (idx (ixS l s))) /\ w = w' := by
 unfold maxLen at hl; go_enter Tryz.func120, Tryz.ntmps120
 go_wp2
 go_loop [8] (fun i => ∃ k : Nat, k <= l.length /\ i = .int .i64 k /\ ∀ (j : Nat) x, l[j]? = some x -> j < k -> (s == x) = false) (fun i => l.length - (intOf i).toNat)
 case atStart => exact ⟨0, Nat.zero_le _, rfl, fun _ _ _ h => absurd h (by omega)⟩
 case round =>
  obtain ⟨k, hk, rfl, aC⟩ := hrel; have Hno := Hi aC; clear aC
  by_cases aB : k < l.length
  · obtain ⟨x, hx⟩ := gLt aB; obtain ⟨b, o, rfl, aY, c0⟩ := hr.item hx; have Hx := Hi hx; clear hr hx; cases hp : (s == x) with
    | true =>
      have Hp := Hi hp; go_wp2_with fail; go_ret; exact ⟨by unfold ixS; rw [Cw Hx.out Hp.out Hno.out]; rfl, rfl⟩
    | false =>
      have Hp := Hi hp; go_wp2_with fail; exact ⟨⟨k + 1, by omega, by go_num, qak (p := fun x => s == x) Hx.out Hp.out Hno.out⟩, by simp [intOf]; omega⟩
  · have : k = l.length := by omega
    subst this; go_wp2_with fail; go_ret; exact ⟨by unfold ixS; rw [Cx Hno.out]; rfl, rfl⟩
end
set_option maxRecDepth 20000
set_option maxHeartbeats 400000
section
open Go.RowKit
def Zx (fin : Nat) : List Tok -> Tok
 | [] => ⟨0, [], 0, fin⟩
 | t :: _ => t
abbrev Xg (e a : Nat) : Ending := .panicked [{ v := .iface 83 (.agg #[.int .i64 e, .int .i64 a]), recovered := false }]
theorem Rb (p fin : Nat) (w : World) (hp : PS w p fin []) :
 Calls Tryz.prog 118 #[.pointer (some ⟨p, 0, none⟩)] w fun e w' => e = .returned (.agg #[.int .i64 0, vs [], .int .i64 0, .int .i64 fin]) /\ Below w.heap.size w w' := by
 obtain ⟨A, c, hh, -⟩ := hp.is; have c0 := cOb (o := 0) hh rfl; have c1 := cOb (o := 1) hh rfl; have aB := lHp hh; clear hh hp; go_enter Tryz.func118, Tryz.ntmps118
 go_wp2
 refine bodyPost_ret (v := .agg #[.int .i64 0, vs [], .int .i64 0, .int .i64 fin]) (by simp [results, Tryz.results118, go_sem]) rfl ⟨rfl, ?_⟩; exact (Below.refl _ _).alloc (lR _) _
theorem Xj (p fin : Nat) (t : Tok) (l : List Tok) (w : World) (hp : PS w p fin (t :: l)) :
 Calls Tryz.prog 118 #[.pointer (some ⟨p, 0, none⟩)] w fun e w' => e = .returned t.agg /\ Below w.heap.size w w' := by
 obtain ⟨A, c, hh, hr, -⟩ := hp.is; obtain ⟨b, o, rfl, hb, d0, d1, d2, d3, -⟩ := hr.head; have c0 := cOb (o := 0) hh rfl; have c1 := cOb (o := 1) hh rfl; have aB := lHp hh; have hz : (((l.length : Nat) : Int) + 1 == 0) = false := by simp; omega
 simp only [List.length_cons] at c0; clear hh hp hr; go_enter Tryz.func118, Tryz.ntmps118
 go_wp2
 refine bodyPost_ret (v := t.agg) (by simp [results, Tryz.results118, go_sem]) rfl ⟨rfl, ?_⟩; exact (Below.refl _ _).alloc (lR _) _
end
section
open Go.Lib
def Vi : List (List UInt8) -> List UInt8
 | [] => [32]
 | w :: ws => 32 :: (w ++ Vi ws)
theorem Tt (ws : List (List UInt8)) : ∃ r, Vi ws = 32 :: r := by cases ws <;> exact ⟨_, rfl⟩
theorem D2 : ∀ (s w r : List UInt8), (∀ c ∈ s, c ≠ 32) -> (∀ c ∈ w, c ≠ 32) -> ((s ++ [32]).isPrefixOf (w ++ 32 :: r) = true ↔ s = w)
 | [], [], r, _, _ => by simp
 | [], d :: w, r, _, hw => by
   have : d ≠ 32 := hw d (by simp); simp [List.isPrefixOf]; intro h; exact this h.symm
 | c :: s, [], r, hs, _ => by
   have : c ≠ 32 := hs c (by simp); simp [List.isPrefixOf, this]
 | c :: s, d :: w, r, hs, hw => by
   have ih := D2 s w r (fun x hx => hs x (by simp [hx])) (fun x hx => hw x (by simp [hx])); simp only [List.cons_append, List.isPrefixOf, Bool.and_eq_true, ih, beq_iff_eq, List.cons.injEq]
theorem Ma : ∀ (ws : List (List UInt8)) (s : List UInt8), (∀ c ∈ s, c ≠ 32) -> (∀ w ∈ ws, ∀ c ∈ w, c ≠ 32) -> ((∃ i, occAt (Vi ws) (32 :: (s ++ [32])) i = true) ↔ s ∈ ws)
 | [], s, hs, hw => by
   simp only [List.not_mem_nil, iff_false, not_exists, Bool.not_eq_true]; intro i; unfold occAt Vi; cases i with
   | zero => cases s <;> simp [List.isPrefixOf]
   | succ i => simp [List.isPrefixOf]
 | w :: ws, s, hs, hw => by
   have ih := Ma ws s hs (fun x hx => hw x (by simp [hx])); obtain ⟨r, hr⟩ := Tt ws
   have h0 : occAt (Vi (w :: ws)) (32 :: (s ++ [32])) 0 = true ↔ s = w := by
    unfold occAt Vi; rw [hr]; simp only [List.drop_zero, List.isPrefixOf, beq_self_eq_true, Bool.true_and]; exact D2 s w r hs (hw w (by simp))
   have h1 : ∀ i, i < w.length -> occAt (Vi (w :: ws)) (32 :: (s ++ [32])) (i + 1) = false := by
    intro i hi; unfold occAt Vi; rw [List.drop_succ_cons, List.drop_append_of_le_length (by omega)]; cases hq : w.drop i with
    | nil => have := congrArg List.length hq; simp at this; omega
    | cons d q =>
      have aF : d ≠ 32 := hw w (by simp) d (List.mem_of_mem_drop (by rw [hq]; simp)); simp [List.isPrefixOf, Ne.symm aF]
   have h2 : ∀ i, occAt (Vi (w :: ws)) (32 :: (s ++ [32])) (i + w.length + 1) = occAt (Vi ws) (32 :: (s ++ [32])) i := by
    intro i; unfold occAt
    have : (Vi (w :: ws)).drop (i + w.length + 1) = (Vi ws).drop i := by
     show (32 :: (w ++ Vi ws)).drop _ = _
     rw [List.drop_succ_cons, Nat.add_comm, <- List.drop_drop, List.drop_left]
    rw [this]
   simp only [List.mem_cons]; constructor
   · rintro ⟨i, hi⟩; rcases Nat.eq_zero_or_pos i with rfl | hp
     · exact .inl (h0.1 hi)
     · obtain ⟨k, rfl⟩ : ∃ k, i = k + 1 := ⟨i - 1, by omega⟩
       by_cases hk : k < w.length
       · rw [h1 k hk] at hi; cases hi
       · obtain ⟨m, rfl⟩ : ∃ m, k = m + w.length := ⟨k - w.length, by omega⟩
         rw [h2 m] at hi; exact .inr (ih.1 ⟨m, hi⟩)
   · rintro (rfl | h)
     · exact ⟨0, h0.2 rfl⟩
     · obtain ⟨m, hm⟩ := ih.2 h; exact ⟨m + w.length + 1, by rw [h2]; exact hm⟩
theorem Rk (s sub : List UInt8) (aF : sub ≠ []) : contains s sub = true ↔ ∃ i, occAt s sub i = true := by
 unfold contains; rcases index_spec s sub with ⟨h1, h2⟩ | ⟨i, h1, h2, h3, -⟩
 · rw [h1]; constructor
   · intro h; simp at h
   · rintro ⟨i, hi⟩; rcases Nat.lt_or_ge s.length i with hl | hl
     · unfold occAt at hi; rw [List.drop_of_length_le (by omega)] at hi; cases sub with
       | nil => exact absurd rfl aF
       | cons a b => simp [List.isPrefixOf] at hi
     · rw [h2 i hl] at hi; cases hi
 · rw [h1]; simp only [Int.natCast_nonneg, decide_true, true_iff]; exact ⟨i, h3⟩
theorem U5 (s : List UInt8) (hs : ∀ c ∈ s, c ≠ 32) : contains (Vi Qw) (32 :: (s ++ [32])) = Wq s := by
 rw [Bool.eq_iff_iff, Rk _ _ (by simp), Ma Qw s hs (by decide)]; unfold Wq; simp
end
set_option maxRecDepth 20000
set_option maxHeartbeats 400000
section
open Go.RowKit
@[go_sem] theorem qcr (a b c d : Value) (W : World) : (Instr.field 122 (.agg #[a, b, c, d]) 3).run Tryz.prog W = .ok d W := by kernel_rfl
theorem Zq (p fin : Nat) (l : List Tok) (w : World) (hp : PS w p fin l) :
 Calls Tryz.prog 87 #[.pointer (some ⟨p, 0, none⟩)] w fun e w' => e = Xg (Z1 l) (Xd fin l) /\ Below w.heap.size w w' := by
 cases l with
 | nil =>
   obtain ⟨A, c, hh, -⟩ := hp.is; have c0 := cOb (o := 0) hh rfl; have c1 := cOb (o := 1) hh rfl; have aB := lHp hh; clear hh hp; go_enter Tryz.func87, Tryz.ntmps87
   go_wp2
   exact ⟨rfl, rfl, Below.refl _ _⟩
 | cons t r =>
   have HP := Hi hp; obtain ⟨A, c, hh, -⟩ := hp.is; have c0 := cOb (o := 0) hh rfl; have aB := lHp hh; have hz : (((r.length : Nat) : Int) + 1 == 0) = false := by simp; omega
   simp only [List.length_cons] at c0; clear hh hp; go_enter Tryz.func87, Tryz.ntmps87
   go_wp2_with (go_at_call 118; refine (Xj p fin t r _ HP.out).mono ?_; rintro e w1 ⟨rfl, aA⟩)
   exact ⟨rfl, rfl, aA⟩
theorem Mq (s : List UInt8) : ((⟨#[32]⟩ : ByteArray) ++ ⟨s.toArray⟩ ++ ⟨#[32]⟩).data.toList = 32 :: (s ++ [32]) := by
 simp [ByteArray.data_append]
theorem Ie (B : ByteArray) (s : List UInt8) (w : World) (hB : B.data.toList = Vi Qw) (hs : ∀ c ∈ s, c ≠ 32) (hm : ∃ m, w.cell? ⟨2, 0, none⟩ = some (.int .i64 m)) :
 Calls Tryz.prog 162 #[.string B, .string ((⟨#[32]⟩ : ByteArray) ++ ⟨s.toArray⟩ ++ ⟨#[32]⟩)] w fun e w' => e = .returned (.bool (Wq s)) /\ w = w' := by
 obtain ⟨m, hm⟩ := hm
 have aQ : B.size < 4294967281 := by
  have h1 : B.data.toList.length <= 1000 := by rw [hB]; decide
  have h2 : B.size = B.data.toList.length := (Array.length_toList).symm; omega
 refine (Tryz.strings_Contains B _ m w aQ hm).mono ?_; rintro e w' ⟨rfl, rfl⟩; rw [hB, Mq, U5 s hs]; exact ⟨rfl, rfl⟩
theorem qbp (s : List UInt8) (w : World) (hl : s.length <= 1000) (hs : ∀ c ∈ s, c ≠ 32) (hm : ∃ m, w.cell? ⟨2, 0, none⟩ = some (.int .i64 m)) :
 Calls Tryz.prog 119 #[vs s] w fun e w' => e = .returned (.bool (Wq s)) /\ w = w' := by
 have HM := Hi hm; have HS := Hi hs; clear hs hm; go_enter Tryz.func119, Tryz.ntmps119
 go_wp2_with fail; refine (Ie _ s _ ?hb HS.out HM.out).mono ?_
 case hb => rfl
 rintro e w1 ⟨rfl, rfl⟩; go_wp2_with fail; go_ret; exact ⟨rfl, rfl⟩
end
set_option maxRecDepth 20000
set_option maxHeartbeats 400000
section
open Go.RowKit
theorem PS.step {w w1 : World} {p fin : Nat} {t : Tok} {l : List Tok} {b o c : Nat} (h : PS w p fin (t :: l)) (hh : w.heap[p]? = some (.cells #[.slice (some ⟨b, o, none⟩) (l.length + 1) c, .int .i64 fin] 87 (0, 0)))
 (hr : RdT w (some ⟨b, o, none⟩) (t :: l)) (hn : b < p) (h1 : l.length + 1 <= c) (h2 : c <= 9223372036854775807) (hb : Below w.heap.size w w1) (A' : Option Addr) (c' : Nat) (aW : c' = c - 1) (hA : A' = some ⟨b, o + 4, none⟩ \/ (c = 1 /\ A' = some ⟨b, o, none⟩)) (x : Obj) :
 PS ((w1.setCell ⟨p, 0, none⟩ (.slice A' l.length c')).alloc x) p fin l /\ Eff p w ((w1.setCell ⟨p, 0, none⟩ (.slice A' l.length c')).alloc x) := by
 subst aW; have he : Eff p w (w1.setCell ⟨p, 0, none⟩ (.slice A' l.length (c - 1))) := (Eff.of_below hb).setCell ⟨p, 0, none⟩ (.inl rfl) _; have aB := lHp hh
 have aS : PS (w1.setCell ⟨p, 0, none⟩ (.slice A' l.length (c - 1))) p fin l := by
  refine ⟨⟨A', c - 1, ?_, ?_, ?_, by omega, by omega⟩, fun x hx => h.fit x (by simp [hx]), ?_, h.ne, h.bound⟩
  · have := rSc (o := 0) (u := .slice A' l.length (c - 1)) ((hb.block p aB).trans hh); rw [this]; rfl
  · rcases hA with rfl | ⟨aK, rfl⟩
    · exact Sl.keep (hr.tail) he.size (fun b' o' hA aI => by cases hA; exact he.block _ aI (by omega))
    · have : l = [] := by
        cases l with
        | nil => rfl
        | cons x y => simp at h1; omega
      subst this; exact Sl.nil
  · intro b' o' aP; rcases hA with rfl | ⟨-, rfl⟩
    · cases aP; exact hn
    · cases aP; exact hn
  · obtain ⟨m, hm⟩ := h.mx; exact ⟨m, he.cell hm (by have := h.ne; omega)⟩
 exact ⟨aS.below ((Below.refl _ _).alloc (lR _) _), he.alloc _⟩
theorem qey (ws : List (List UInt8)) (W : Option Addr) (cw : Nat) (p fin : Nat) (w : World) (hp : PS w p fin []) :
 Calls Tryz.prog 81 #[.pointer (some ⟨p, 0, none⟩), .slice W ws.length cw] w fun e w' => e = .returned (.int .i64 (-1)) /\ Below w.heap.size w w' := by
 have HP := Hi hp; clear hp; go_enter Tryz.func81, Tryz.ntmps81
 go_wp2_with (go_at_call 118; refine (Rb p fin _ HP.out).mono ?_; rintro e w1 ⟨rfl, aA⟩)
 go_ret; exact ⟨rfl, aA.alloc aA.size _⟩
theorem qex (ws : List (List UInt8)) (W : Option Addr) (cw : Nat) (p fin : Nat) (t : Tok) (l : List Tok) (w : World) (hp : PS w p fin (t :: l)) (hk : t.kind = 2) :
 Calls Tryz.prog 81 #[.pointer (some ⟨p, 0, none⟩), .slice W ws.length cw] w fun e w' => e = .returned (.int .i64 (-1)) /\ Below w.heap.size w w' := by
 have HP := Hi hp; have k1 : ((t.kind : Int) != 1) = true := by simp [hk]
 have k3 : ((t.kind : Int) != 3) = true := by simp [hk]
 clear hp hk; go_enter Tryz.func81, Tryz.ntmps81
 go_wp2_with (go_at_call 118; refine (Xj p fin t l _ HP.out).mono ?_; rintro e w1 ⟨rfl, aA⟩)
 go_ret; exact ⟨rfl, aA.alloc aA.size _⟩
theorem Ss (ws : List (List UInt8)) (W : Option Addr) (cw : Nat) (p fin : Nat) (t : Tok) (l : List Tok) (w : World) (hp : PS w p fin (t :: l)) (hk : t.kind = 1 \/ t.kind = 3) (hr : RdS w W ws) (hl : ws.length <= 100) (hi : ixS ws t.text = none) :
 Calls Tryz.prog 81 #[.pointer (some ⟨p, 0, none⟩), .slice W ws.length cw] w fun e w' => e = .returned (.int .i64 (-1)) /\ Below w.heap.size w w' := by
 have HP := Hi hp; have HR := Hi hr; have HI := Hi hi; clear hp hr hi; have key : (((t.kind : Int) != 1) = false /\ ((t.kind : Int) != 3) = true) \/ (((t.kind : Int) != 1) = true /\ ((t.kind : Int) != 3) = false) := by rcases hk with h | h <;> simp [h]
 clear hk; rcases key with ⟨k1, k3⟩ | ⟨k1, k3⟩
 all_goals
  go_enter Tryz.func81, Tryz.ntmps81
  go_wp2_with (go_at_call 118; refine (Xj p fin t l _ HP.out).mono ?_; rintro e w1 ⟨rfl, aA⟩)
  refine (U7 ws W cw t.text _ (HR.out.below (aA.alloc aA.size _)) (by unfold maxLen; omega)).mono ?_; rintro e w2 ⟨rfl, rfl⟩; rw [HI.out]; go_wp2_with fail; go_ret; exact ⟨rfl, aA.alloc aA.size _⟩
theorem qew (ws : List (List UInt8)) (W : Option Addr) (cw : Nat) (p fin : Nat) (t : Tok) (l : List Tok) (w : World) (hp : PS w p fin (t :: l)) (hk : t.kind = 1 \/ t.kind = 3) (hr : RdS w W ws) (hl : ws.length <= 100) (i : Nat) (hi : ixS ws t.text = some i) :
 Calls Tryz.prog 81 #[.pointer (some ⟨p, 0, none⟩), .slice W ws.length cw] w fun e w' => e = .returned (.int .i64 i) /\ PS w' p fin l /\ Eff p w w' := by
 have HP := Hi hp; have HR := Hi hr; have HI := Hi hi; obtain ⟨A, c, hh, aE, hn, h1, h2⟩ := hp.is; obtain ⟨b, o, rfl, hb, -, -, -, -, -⟩ := aE.head; have hn := hn b o rfl; simp only [List.length_cons] at hh h1; have HH := Hi hh; have c0 := cOb (o := 0) hh rfl; have f0 := fOb (o := 0) hh; have aB := lHp hh; clear hp hr hi hh; have key : (((t.kind : Int) != 1) = false /\ ((t.kind : Int) != 3) = true) \/ (((t.kind : Int) != 1) = true /\ ((t.kind : Int) != 3) = false) := by rcases hk with h | h <;> simp [h]
 clear hk; have aK : (1 : Int) <= (l.length : Int) + 1 := by omega
 have aO : ((l.length : Int) + 1) <= c := by omega
 by_cases hc : c = 1
 all_goals
  rcases key with ⟨k1, k3⟩ | ⟨k1, k3⟩
  all_goals
   go_enter Tryz.func81, Tryz.ntmps81
   go_wp2_with (go_at_call 118; refine (Xj p fin t l _ HP.out).mono ?_; rintro e w1 ⟨rfl, aA⟩)
   refine (U7 ws W cw t.text _ (HR.out.below (aA.alloc aA.size _)) (by unfold maxLen; omega)).mono ?_; rintro e w2 ⟨rfl, rfl⟩; rw [HI.out]; have d0 := (aA.cell (p := ⟨p, 0, none⟩) aB).trans c0; have df := (aA.frozen (p := ⟨p, 0, none⟩) aB).trans f0; have dl := World.block_lt_of_cell? _ _ d0; go_wp2_with fail; go_ret; exact ⟨rfl, HP.out.step HH.out aE hn h1 h2 aA _ _ (by omega) (by first | exact .inl rfl | exact .inr ⟨hc, rfl⟩) _⟩
theorem C9.word {t : Tok} (h : C9 t) : (Yg t = true /\ (t.kind = 1 \/ t.kind = 3)) \/ (Yg t = false /\ t.kind = 2) := by
 rcases h.kind with hk | hk | hk <;> simp [Yg, hk]
theorem P9 (ws : List (List UInt8)) (W : Option Addr) (cw : Nat) (p fin : Nat) (l : List Tok) (w : World) (hp : PS w p fin l) (hr : RdS w W ws) (hl : ws.length <= 100) (hi : Xb ws l = (none, l)) :
 Calls Tryz.prog 81 #[.pointer (some ⟨p, 0, none⟩), .slice W ws.length cw] w fun e w' => e = .returned (.int .i64 (-1)) /\ Below w.heap.size w w' := by
 cases l with
 | nil => exact qey ws W cw p fin w hp
 | cons t r =>
   rcases (hp.fit t (by simp)).word with ⟨h1, h2⟩ | ⟨h1, h2⟩
   · refine Ss ws W cw p fin t r w hp h2 hr hl ?_; rw [qgc]; simp only [Xb, h1, if_true] at hi; cases hq : ws.idxOf? t.text with
     | none => rfl
     | some i => rw [hq] at hi; simp at hi
   · exact qex ws W cw p fin t r w hp h2
theorem Ov (ws : List (List UInt8)) (W : Option Addr) (cw : Nat) (p fin : Nat) (t : Tok) (l : List Tok) (w : World) (hp : PS w p fin (t :: l)) (hr : RdS w W ws) (hl : ws.length <= 100) (i : Nat) (hi : Xb ws (t :: l) = (some i, l)) :
 Calls Tryz.prog 81 #[.pointer (some ⟨p, 0, none⟩), .slice W ws.length cw] w fun e w' => e = .returned (.int .i64 i) /\ PS w' p fin l /\ Eff p w w' := by
 rcases (hp.fit t (by simp)).word with ⟨h1, h2⟩ | ⟨h1, h2⟩
 · refine qew ws W cw p fin t l w hp h2 hr hl i ?_; rw [qgc]; simp only [Xb, h1, if_true] at hi; cases hq : ws.idxOf? t.text with
   | none => rw [hq] at hi; simp at hi
   | some j => rw [hq] at hi; simp at hi; rw [hi]
 · simp [Xb, h1] at hi
end
set_option maxRecDepth 20000
set_option maxHeartbeats 400000
section
open Go.RowKit
theorem qbu (i : Nat) : decide ((i : Int) < 0) = false := by simp
theorem qib (ws : List (List UInt8)) (W : Option Addr) (cw : Nat) (p fin : Nat) (t : Tok) (l : List Tok) (w : World) (hp : PS w p fin (t :: l)) (hr : RdS w W ws) (hl : ws.length <= 100) (i : Nat) (hi : Xb ws (t :: l) = (some i, l)) :
 Calls Tryz.prog 78 #[.pointer (some ⟨p, 0, none⟩), .slice W ws.length cw] w fun e w' => e = .returned (.int .i64 i) /\ PS w' p fin l /\ Eff p w w' := by
 have HT := Hi (Ov ws W cw p fin t l w hp hr hl i hi); have h0 : (0 : Int) <= i := by omega
 clear hp hr hi; go_enter Tryz.func78, Tryz.ntmps78
 go_wp2_with fail; refine HT.out.mono ?_; rintro e w1 ⟨rfl, aT, aV⟩; go_wp2_with fail; go_ret; exact ⟨rfl, aT, aV⟩
theorem qic (ws : List (List UInt8)) (W : Option Addr) (cw : Nat) (p fin : Nat) (l : List Tok) (w : World) (hp : PS w p fin l) (hr : RdS w W ws) (hl : ws.length <= 100) (hi : Xb ws l = (none, l)) :
 Calls Tryz.prog 78 #[.pointer (some ⟨p, 0, none⟩), .slice W ws.length cw] w fun e w' => e = Xg (Z1 l) (Xd fin l) /\ Below w.heap.size w w' := by
 have HT := Hi (P9 ws W cw p fin l w hp hr hl hi); have HP := Hi hp; clear hp hr hi; go_enter Tryz.func78, Tryz.ntmps78
 go_wp2_with fail; refine HT.out.mono ?_; rintro e w1 ⟨rfl, aA⟩; go_wp2_with fail; refine (Zq p fin l _ (HP.out.below aA)).mono ?_; rintro e w2 ⟨rfl, aD⟩; go_wp2_with fail; exact ⟨rfl, rfl, aA.trans (aD.mono aA.size)⟩
theorem U1 (p fin : Nat) (t : Tok) (l : List Tok) (w : World) (hp : PS w p fin (t :: l)) (hk : t.kind = 1) (aC : Wq t.text = false) :
 Calls Tryz.prog 79 #[.pointer (some ⟨p, 0, none⟩)] w fun e w' => e = .returned (vs t.text) /\ PS w' p fin l /\ Eff p w w' := by
 have HP := Hi hp; have HF := Hi (hp.fit t (by simp)); obtain ⟨A, c, hh, aE, hn, h1, h2⟩ := hp.is; obtain ⟨b, o, rfl, hb, -, -, -, -, -⟩ := aE.head; have hn := hn b o rfl; simp only [List.length_cons] at hh h1; have HH := Hi hh; have c0 := cOb (o := 0) hh rfl; have f0 := fOb (o := 0) hh; have aB := lHp hh; have k1 : ((t.kind : Int) != 1) = false := by simp [hk]
 have aM := Hi aC; have aN := Hi hk; clear hp hh hk aC; have aK : (1 : Int) <= (l.length : Int) + 1 := by omega
 have aO : ((l.length : Int) + 1) <= c := by omega
 by_cases hc : c = 1
 all_goals
  go_enter Tryz.func79, Tryz.ntmps79
  go_wp2_with (go_at_call 118; refine (Xj p fin t l _ HP.out).mono ?_; rintro e w1 ⟨rfl, aA⟩)
  refine (qbp t.text _ (by have := HF.out.len; omega) (HF.out.nospace aN.out) ((HP.out.below aA).below ((Below.refl _ _).alloc (lR _) _)).mx).mono ?_; rintro e w2 ⟨rfl, rfl⟩; rw [aM.out]; have d0 := (aA.cell (p := ⟨p, 0, none⟩) aB).trans c0; have df := (aA.frozen (p := ⟨p, 0, none⟩) aB).trans f0; have dl := World.block_lt_of_cell? _ _ d0; go_wp2_with fail; go_ret; exact ⟨rfl, HP.out.step HH.out aE hn h1 h2 aA _ _ (by omega) (by first | exact .inl rfl | exact .inr ⟨hc, rfl⟩) _⟩
theorem qfw (p fin : Nat) (w : World) (hp : PS w p fin []) :
 Calls Tryz.prog 79 #[.pointer (some ⟨p, 0, none⟩)] w fun e w' => e = Xg 6 fin /\ Below w.heap.size w w' := by
 have HP := Hi hp; clear hp; go_enter Tryz.func79, Tryz.ntmps79
 go_wp2_with fail; refine (Rb p fin _ HP.out).mono ?_; rintro e w1 ⟨rfl, aA⟩; go_wp2_with fail; refine (Zq p fin [] _ ((HP.out.below aA).below ((Below.refl _ _).alloc (lR _) _))).mono ?_; rintro e w2 ⟨rfl, aD⟩; go_wp2_with fail; exact ⟨rfl, rfl, aA.trans (((Below.refl _ _).alloc (lR _) _).trans (aD.mono (by simp)) |>.mono aA.size)⟩
theorem qdc (p fin : Nat) (t : Tok) (l : List Tok) (w : World) (hp : PS w p fin (t :: l)) (hk : t.kind ≠ 1) :
 Calls Tryz.prog 79 #[.pointer (some ⟨p, 0, none⟩)] w fun e w' => e = Xg 5 t.pos /\ Below w.heap.size w w' := by
 have HP := Hi hp; have k1 : ((t.kind : Int) != 1) = true := by simp; omega
 clear hp hk; go_enter Tryz.func79, Tryz.ntmps79
 go_wp2_with fail; refine (Xj p fin t l _ HP.out).mono ?_; rintro e w1 ⟨rfl, aA⟩; go_wp2_with fail; refine (Zq p fin (t :: l) _ ((HP.out.below aA).below ((Below.refl _ _).alloc (lR _) _))).mono ?_; rintro e w2 ⟨rfl, aD⟩; go_wp2_with fail; exact ⟨rfl, rfl, aA.trans (((Below.refl _ _).alloc (lR _) _).trans (aD.mono (by simp)) |>.mono aA.size)⟩
theorem qfx (p fin : Nat) (t : Tok) (l : List Tok) (w : World) (hp : PS w p fin (t :: l)) (hk : t.kind = 1) (aC : Wq t.text = true) :
 Calls Tryz.prog 79 #[.pointer (some ⟨p, 0, none⟩)] w fun e w' => e = Xg 5 t.pos /\ Below w.heap.size w w' := by
 have HP := Hi hp; have HF := Hi (hp.fit t (by simp)); have k1 : ((t.kind : Int) != 1) = false := by simp [hk]
 have aM := Hi aC; have aN := Hi hk; clear hp hk aC; go_enter Tryz.func79, Tryz.ntmps79
 go_wp2_with fail; refine (Xj p fin t l _ HP.out).mono ?_; rintro e w1 ⟨rfl, aA⟩; go_wp2_with fail; refine (qbp t.text _ (by have := HF.out.len; omega) (HF.out.nospace aN.out) ((HP.out.below aA).below ((Below.refl _ _).alloc (lR _) _)).mx).mono ?_; rintro e w2 ⟨rfl, rfl⟩; rw [aM.out]; go_wp2_with fail; refine (Zq p fin (t :: l) _ ((HP.out.below aA).below ((Below.refl _ _).alloc (lR _) _))).mono ?_; rintro e w2 ⟨rfl, aD⟩; go_wp2_with fail; exact ⟨rfl, rfl, aA.trans (((Below.refl _ _).alloc (lR _) _).trans (aD.mono (by simp)) |>.mono aA.size)⟩
theorem V0 (most : Nat) (p fin : Nat) (t : Tok) (l : List Tok) (w : World) (hp : PS w p fin (t :: l)) (hk : t.kind = 2) (hm : t.n <= most) :
 Calls Tryz.prog 80 #[.pointer (some ⟨p, 0, none⟩), .int .i64 most] w fun e w' => e = .returned (.int .i64 t.n) /\ PS w' p fin l /\ Eff p w w' := by
 have HP := Hi hp; obtain ⟨A, c, hh, aE, hn, h1, h2⟩ := hp.is; obtain ⟨b, o, rfl, hb, -, -, -, -, -⟩ := aE.head; have hn := hn b o rfl; simp only [List.length_cons] at hh h1; have HH := Hi hh; have c0 := cOb (o := 0) hh rfl; have f0 := fOb (o := 0) hh; have aB := lHp hh; have k1 : ((t.kind : Int) != 2) = false := by simp [hk]
 have aU : ¬ (most : Int) < t.n := by omega
 clear hp hh hk hm; have aK : (1 : Int) <= (l.length : Int) + 1 := by omega
 have aO : ((l.length : Int) + 1) <= c := by omega
 by_cases hc : c = 1
 all_goals
  go_enter Tryz.func80, Tryz.ntmps80
  go_wp2_with fail; refine (Xj p fin t l _ HP.out).mono ?_; rintro e w1 ⟨rfl, aA⟩; have d0 := (aA.cell (p := ⟨p, 0, none⟩) aB).trans c0; have df := (aA.frozen (p := ⟨p, 0, none⟩) aB).trans f0; have dl := World.block_lt_of_cell? _ _ d0; go_wp2_with fail; go_ret; exact ⟨rfl, HP.out.step HH.out aE hn h1 h2 aA _ _ (by omega) (by first | exact .inl rfl | exact .inr ⟨hc, rfl⟩) _⟩
theorem Tk (most : Nat) (p fin : Nat) (t : Tok) (l : List Tok) (w : World) (hp : PS w p fin (t :: l)) (hk : t.kind = 2) (hm : most < t.n) :
 Calls Tryz.prog 80 #[.pointer (some ⟨p, 0, none⟩), .int .i64 most] w fun e w' => e = Xg 10 t.pos /\ Below w.heap.size w w' := by
 have HP := Hi hp; have k1 : ((t.kind : Int) != 2) = false := by simp [hk]
 have aU : (most : Int) < t.n := by omega
 clear hp hk hm; go_enter Tryz.func80, Tryz.ntmps80
 go_wp2_with fail; refine (Xj p fin t l _ HP.out).mono ?_; rintro e w1 ⟨rfl, aA⟩; go_wp2_with fail; exact ⟨rfl, rfl, aA.alloc aA.size _⟩
theorem Tj (most : Nat) (p fin : Nat) (w : World) (hp : PS w p fin []) :
 Calls Tryz.prog 80 #[.pointer (some ⟨p, 0, none⟩), .int .i64 most] w fun e w' => e = Xg 6 fin /\ Below w.heap.size w w' := by
 have HP := Hi hp; clear hp; go_enter Tryz.func80, Tryz.ntmps80
 go_wp2_with fail; refine (Rb p fin _ HP.out).mono ?_; rintro e w1 ⟨rfl, aA⟩; go_wp2_with fail; refine (Zq p fin [] _ ((HP.out.below aA).below ((Below.refl _ _).alloc (lR _) _))).mono ?_; rintro e w2 ⟨rfl, aD⟩; go_wp2_with fail; exact ⟨rfl, rfl, aA.trans (((Below.refl _ _).alloc (lR _) _).trans (aD.mono (by simp)) |>.mono aA.size)⟩
theorem D8 (most : Nat) (p fin : Nat) (t : Tok) (l : List Tok) (w : World) (hp : PS w p fin (t :: l)) (hk : t.kind ≠ 2) :
 Calls Tryz.prog 80 #[.pointer (some ⟨p, 0, none⟩), .int .i64 most] w fun e w' => e = Xg 5 t.pos /\ Below w.heap.size w w' := by
 have HP := Hi hp; have k1 : ((t.kind : Int) != 2) = true := by simp; omega
 clear hp hk; go_enter Tryz.func80, Tryz.ntmps80
 go_wp2_with fail; refine (Xj p fin t l _ HP.out).mono ?_; rintro e w1 ⟨rfl, aA⟩; go_wp2_with fail; refine (Zq p fin (t :: l) _ ((HP.out.below aA).below ((Below.refl _ _).alloc (lR _) _))).mono ?_; rintro e w2 ⟨rfl, aD⟩; go_wp2_with fail; exact ⟨rfl, rfl, aA.trans (((Below.refl _ _).alloc (lR _) _).trans (aD.mono (by simp)) |>.mono aA.size)⟩
end
section
def Y5 (t : Tok) : Nat × List UInt8 × Nat := (t.kind, t.text, t.n)
theorem qgn (l : List Tok) : Z1 l = 5 \/ Z1 l = 6 := by cases l <;> simp [Z1]
theorem J9 (ws : List (List UInt8)) (l : List Tok) : (Xb ws l = (none, l)) \/ ∃ t r i, l = t :: r /\ Xb ws l = (some i, r) /\ Yg t = true /\ ws.idxOf? t.text = some i := by
 cases l with
 | nil => exact .inl rfl
 | cons t r =>
   simp only [Xb]
   split
   · rename_i h
     split
     · rename_i i hi; exact .inr ⟨t, r, i, rfl, rfl, h, hi⟩
     · exact .inl rfl
   · exact .inl rfl
structure Qj {α : Type} (d n : Nat) (P : List Tok -> R α) : Prop where
 ok : ∀ l x r, l.length < n -> P l = .ok (x, r) -> r.length + d <= l.length
 err : ∀ l e s, l.length < n -> P l = .error (e, s) -> e ≠ 0 /\ s.length <= l.length /\ (e = 6 ↔ s = []) /\ (e = 2 \/ e = 5 \/ e = 6 \/ e = 9 \/ e = 10)
theorem Qj.weak {α : Type} {d d' n n' : Nat} {P : List Tok -> R α} (h : Qj d n P) (hd : d' <= d) (hn : n' <= n) : Qj d' n' P where
 ok := fun l x r hl hp => by have := h.ok l x r (by omega) hp; omega
 err := fun l e s hl hp => h.err l e s (by omega) hp
theorem Qj.pure {α : Type} {n : Nat} (x : α) : Qj 0 n (fun l => .ok (x, l)) where
 ok := fun l y r _ h => by cases h; exact lR _
 err := fun l e s _ h => by cases h
theorem qiq (l : List Tok) : Z1 l = 6 ↔ l = [] := by cases l <;> simp [Z1]
theorem Qj.fail {α : Type} {d n : Nat} : Qj d n (fun l => (failR l : R α)) where
 ok := fun l y r _ h => by cases h
 err := fun l e s _ h => by
  cases h; refine ⟨?_, lR _, qiq l, ?_⟩ <;> rcases qgn l with h | h <;> simp [h]
theorem Qj.bind {α β : Type} {d1 d2 n : Nat} {P : List Tok -> R α} {Q : α -> List Tok -> R β} (hP : Qj d1 n P) (hQ : ∀ x, Qj d2 n (Q x)) : Qj (d1 + d2) n (fun l => Qc (P l) Q) where
 ok := fun l y r hl h => by
  cases hp : P l with
  | error e => rw [hp] at h; cases h
  | ok v =>
    obtain ⟨x, r1⟩ := v; rw [hp] at h; have h1 := hP.ok l x r1 hl hp; have h2 := (hQ x).ok r1 y r (by omega) h; omega
 err := fun l e s hl h => by
  cases hp : P l with
  | error v => rw [hp] at h; cases h; exact hP.err l _ _ hl hp
  | ok v =>
    obtain ⟨x, r1⟩ := v; rw [hp] at h; have h1 := hP.ok l x r1 hl hp; obtain ⟨a, b, c, d⟩ := (hQ x).err r1 e s (by omega) h; exact ⟨a, by omega, c, d⟩
theorem Qj.bind1 {α β : Type} {d2 n : Nat} {P : List Tok -> R α} {Q : α -> List Tok -> R β} (hP : Qj 1 (n + 1) P) (hQ : ∀ x, Qj d2 n (Q x)) : Qj (1 + d2) (n + 1) (fun l => Qc (P l) Q) where
 ok := fun l y r hl h => by
  cases hp : P l with
  | error e => rw [hp] at h; cases h
  | ok v =>
    obtain ⟨x, r1⟩ := v; rw [hp] at h; have h1 := hP.ok l x r1 hl hp; have h2 := (hQ x).ok r1 y r (by omega) h; omega
 err := fun l e s hl h => by
  cases hp : P l with
  | error v => rw [hp] at h; cases h; exact hP.err l _ _ hl hp
  | ok v =>
    obtain ⟨x, r1⟩ := v; rw [hp] at h; have h1 := hP.ok l x r1 hl hp; obtain ⟨a, b, c, d⟩ := (hQ x).err r1 e s (by omega) h; exact ⟨a, by omega, c, d⟩
theorem Qj.opt {α : Type} {d n : Nat} {ws : List (List UInt8)} {yes : Nat -> List Tok -> R α} {no : List Tok -> R α} (hy : ∀ i, Qj (d - 1) n (yes i)) (hn : Qj d (n + 1) no) : Qj d (n + 1) (fun l => Jc ws l yes no) where
 ok := fun l y r hl h => by
  rcases J9 ws l with ht | ⟨t, r0, i, rfl, ht, _⟩
  · simp only [Jc, ht] at h; exact hn.ok l y r hl h
  · simp only [Jc, ht] at h; simp at hl; have := (hy i).ok r0 y r hl h; simp; omega
 err := fun l e s hl h => by
  rcases J9 ws l with ht | ⟨t, r0, i, rfl, ht, _⟩
  · simp only [Jc, ht] at h; exact hn.err l e s hl h
  · simp only [Jc, ht] at h; simp at hl; obtain ⟨a, b, c, d⟩ := (hy i).err r0 e s hl h; exact ⟨a, by simp; omega, c, d⟩
theorem Qj.opt' {α : Type} {d n : Nat} {ws : List (List UInt8)} {yes : Nat -> List Tok -> R α} {no : List Tok -> R α} (hy : ∀ i, Qj (d - 1) n (yes i)) (hn : Qj d n no) : Qj d n (fun l => Jc ws l yes no) := by
 cases n with
 | zero => exact ⟨fun l _ _ h => absurd h (Nat.not_lt_zero _), fun l _ _ h => absurd h (Nat.not_lt_zero _)⟩
 | succ n => exact Qj.opt (fun i => (hy i).weak (lR _) (Nat.le_succ _)) hn
theorem Qj.must {ws : List (List UInt8)} {n : Nat} : Qj 1 n (Q3 ws) := Qj.opt' (fun _ => Qj.pure _) Qj.fail
theorem Qj.name {n : Nat} : Qj 1 n Jb where
 ok := fun l x r hl h => by
  cases l with
  | nil => cases h
  | cons t r0 =>
    simp only [Jb] at h
    split at h
    · cases h; simp
    · cases h
 err := fun l e s hl h => by
  refine (Qj.fail (α := List UInt8) (d := 0)).err l e s hl ?_; cases l with
  | nil => exact h
  | cons t r0 =>
    simp only [Jb] at h
    split at h
    · cases h
    · exact h
theorem Qj.number {n : Nat} (most : Nat) : Qj 1 n (Q6 most) where
 ok := fun l x r hl h => by
  cases l with
  | nil => cases h
  | cons t r0 =>
    simp only [Q6] at h
    split at h
    · split at h
      · cases h
      · cases h; simp
    · cases h
 err := fun l e s hl h => by
  cases l with
  | nil => exact (Qj.fail (α := Nat) (d := 0)).err [] e s hl h
  | cons t r0 =>
    simp only [Q6] at h
    split at h
    · split at h
      · cases h; simp
      · cases h
    · exact (Qj.fail (α := Nat) (d := 0)).err _ e s hl h
theorem Qj.guard {α β : Type} {d1 d2 n : Nat} {P : List Tok -> R α} {Q : α -> List Tok -> R β} (g : α -> Nat) (hg : ∀ x, g x = 0 \/ g x = 2 \/ g x = 9) (h1 : 0 < d1) (hP : Qj d1 n P) (hQ : ∀ x, Qj d2 n (Q x)) :
 Qj (d1 + d2) n (fun l => Qc (P l) fun x r => Js l (g x) (Q x r)) where
 ok := fun l y r hl h => by
  refine (Qj.bind hP hQ).ok l y r hl ?_; cases hp : P l with
  | error e => rw [hp] at h; cases h
  | ok v =>
    obtain ⟨x, r1⟩ := v; rw [hp] at h; simp only [Qc, Js] at h ⊢
    split at h
    · exact h
    · cases h
 err := fun l e s hl h => by
  cases hp : P l with
  | error v => rw [hp] at h; cases h; exact hP.err l _ _ hl hp
  | ok v =>
    obtain ⟨x, r1⟩ := v; rw [hp] at h; simp only [Qc, Js] at h; have h2 := hP.ok l x r1 hl hp
    split at h
    · obtain ⟨a, b, c, d⟩ := (hQ x).err r1 e s (by omega) h; exact ⟨a, by omega, c, d⟩
    · cases h; have aF : l ≠ [] := by rintro rfl; simp at h2; omega
      rcases hg x with hx | hx | hx
      · exact absurd hx (by assumption)
      · rw [hx]; simp [aF]
      · rw [hx]; simp [aF]
theorem Qj.severalL {α : Type} {one : List Tok -> R α} {w : List UInt8} : ∀ {n : Nat}, Qj 1 n one -> Qj 1 n (severalL one w n)
 | 0, _ => ⟨fun l _ _ h => absurd h (Nat.not_lt_zero _), fun l _ _ h => absurd h (Nat.not_lt_zero _)⟩
 | n + 1, h => by
   have ih := Qj.severalL (w := w) (h.weak (lR _) (Nat.le_succ n)); exact Qj.bind (d2 := 0) h (fun x => Qj.opt (fun _ => (Qj.bind (d2 := 0) ih (fun xs => Qj.pure _)).weak (Nat.zero_le _) (lR _)) (Qj.pure _))
theorem Qj.severalF {one : List Tok -> R Qb} {w : List UInt8} {n : Nat} (op : Nat) (h : Qj 1 n one) : Qj 1 n (severalF one w op n) := Qj.bind (d2 := 0) (Qj.severalL h) (fun _ => Qj.pure _)
theorem Qj.orF {one : List Tok -> R Qb} {n : Nat} (op aH : Nat) (h : Qj 1 n one) : Qj 1 n (orF one op aH n) := Qj.severalF aH (Qj.severalF op h)
theorem O3 {α : Type} {d : Nat} {P : List Tok -> R α} : Qj d 0 P := ⟨fun l _ _ h => absurd h (Nat.not_lt_zero _), fun l _ _ h => absurd h (Nat.not_lt_zero _)⟩
theorem Pd : ∀ n, Qj 1 n (Jj n)
 | 0 => O3
 | n + 1 => by
   have ih := Pd n; refine Qj.opt (fun i => ?_) ((Qj.bind (d2 := 0) Qj.name (fun s => Qj.opt' (fun c => (Qj.bind (d2 := 0) (Qj.number _) (fun v => Qj.pure _)).weak (Nat.zero_le _) (lR _)) (Qj.pure _))))
   match i with
   | 0 => exact (Qj.bind (d2 := 0) ih (fun f => Qj.pure _)).weak (Nat.zero_le _) (lR _)
   | 1 => exact (Qj.bind (Qj.orF 6 7 ih) (fun f => Qj.bind (d2 := 0) Qj.must (fun _ => Qj.pure _))).weak (Nat.zero_le _) (lR _)
   | 2 => exact Qj.pure _
   | _ + 3 => exact Qj.pure _
theorem L7 : ∀ n, Qj 1 n (X8 n)
 | 0 => O3
 | n + 1 => by
   have ih := L7 n; refine Qj.bind1 (d2 := 0) Qj.must (fun i => ?_)
   match i with
   | 0 => exact Qj.pure _
   | 1 => exact Qj.pure _
   | 2 => exact (Qj.bind (d2 := 0) (Qj.number _) (fun v => Qj.pure _)).weak (Nat.zero_le _) (lR _)
   | 3 => exact (Qj.bind (Qj.orF 8 9 ih) (fun f => Qj.bind (d2 := 0) Qj.must (fun _ => Qj.pure _))).weak (Nat.zero_le _) (lR _)
   | _ + 4 => exact (Qj.bind (d2 := 0) Qj.name (fun s => Qj.pure _)).weak (Nat.zero_le _) (lR _)
theorem qdu (n : Nat) : Qj 1 n (Rl n) := Qj.orF 6 7 (Pd n)
theorem Sv (n : Nat) : Qj 1 n (Jk n) := Qj.orF 8 9 (L7 n)
theorem Rn {n : Nat} {P : List Tok -> R Qb} (h : Qj 1 n P) : Qj 1 n (Zn P) :=
 Qj.guard (d2 := 0) Wn (fun x => by unfold Wn; split <;> simp) (by omega) h (fun x => Qj.pure _)
theorem Oj (m : Nat) : ∀ n out, 21 <= n + out.length -> out.length <= 20 -> Qj 1 m (Zf n out)
 | 0, out, h, h2 => by omega
 | n + 1, out, h, h2 => by
   refine Qj.mk (fun l x r hl hp => ?_) (fun l e s hl hp => ?_)
   · by_cases aL : out.length = 20
     · exfalso; cases hn : Jb l with
       | error v => simp only [Zf, hn, Qc] at hp; cases hp
       | ok v =>
         obtain ⟨s, r0⟩ := v; simp only [Zf, hn, Qc, Js] at hp; have : Xv out s ≠ 0 := by unfold Xv; rw [if_pos aL]; split <;> simp
         rw [if_neg this] at hp; cases hp
     · exact (Qj.guard (d2 := 0) (Xv out) (fun x => by unfold Xv; split <;> (try split) <;> simp) (by omega) Qj.name (fun s => Qj.opt' (fun _ => (Oj m n (out ++ [s]) (by simp; omega) (by simp; omega)).weak (Nat.zero_le _) (lR _)) (Qj.pure _))).ok l x r hl hp
   · by_cases aL : out.length = 20
     · have hs := (Qj.guard (d2 := 0) (n := m) (P := Jb) (Q := fun s r => .ok ([s], r)) (Xv out) (fun x => by unfold Xv; split <;> (try split) <;> simp) (by omega) Qj.name (fun s => Qj.pure _)).err l e s hl; refine hs ?_; cases hn : Jb l with
       | error v => simp only [Zf, hn, Qc] at hp ⊢; exact hp
       | ok v =>
         obtain ⟨s', r0⟩ := v; simp only [Zf, hn, Qc, Js] at hp ⊢; have : Xv out s' ≠ 0 := by unfold Xv; rw [if_pos aL]; split <;> simp
         rw [if_neg this] at hp ⊢; exact hp
     · exact (Qj.guard (d2 := 0) (Xv out) (fun x => by unfold Xv; split <;> (try split) <;> simp) (by omega) Qj.name (fun s => Qj.opt' (fun _ => (Oj m n (out ++ [s]) (by simp; omega) (by simp; omega)).weak (Nat.zero_le _) (lR _)) (Qj.pure _))).err l e s hl hp
theorem Vy (n : Nat) (w : List UInt8) (op : Nat) : Qj 0 n (Ym n w op) := Qj.opt' (fun _ => (Rn (Sv n)).weak (Nat.zero_le _) (lR _)) (Qj.pure _)
theorem qbt (n : Nat) : Qj 0 n (ifF n) := Qj.opt' (fun _ => (Rn (qdu n)).weak (Nat.zero_le _) (lR _)) (Qj.pure _)
theorem Fw (n : Nat) : Qj 0 n Kx := Qj.opt' (fun _ => (Oj n 22 [] (by simp) (by simp)).weak (Nat.zero_le _) (lR _)) (Qj.pure _)
theorem Bh (n : Nat) : Qj 0 n K3 := (Qj.bind (d2 := 0) Qj.must (fun i => by
 match i with
 | 0 => exact (Qj.bind (d2 := 0) Qj.name (fun s => Qj.pure _)).weak (Nat.zero_le _) (lR _)
 | _ + 1 => exact (Qj.bind Qj.name (fun s => Qj.bind Qj.must (fun _ => Qj.bind (d2 := 0) (Qj.number _) (fun v => Qj.pure _)))).weak (Nat.zero_le _) (lR _))).weak (Nat.zero_le _) (lR _)
theorem qd7 (n : Nat) : Qj 0 n (K6 n) :=
 (Qj.bind Qj.must fun _ => Qj.bind Qj.name fun _ => Qj.bind Qj.must fun _ => Qj.bind (Bh n) fun _ => Qj.bind (qbt n) fun _ => Qj.bind (Fw n) fun _ =>
 Qj.bind (Vy n _ 1) fun _ => Qj.bind (Vy n _ 2) fun _ => Qj.bind (d2 := 0) (Vy n _ 2) fun _ => Qj.pure _).weak (Nat.zero_le _) (lR _)
theorem qcy (n : Nat) : Qj 0 n (Qk n) := (Qj.bind (qd7 n) fun _ => Qj.bind (d2 := 0) Qj.must fun _ => Qj.pure _).weak (Nat.zero_le _) (lR _)
theorem Kj {α : Type} (p : α -> Bool) (l : List α) : (l.takeWhile p).length <= l.length := (List.takeWhile_prefix p).length_le
theorem G6 {c : UInt8} {r : List UInt8} {k n v : Nat} (h : Qt c r = .ok (k, n, v)) : 1 <= n /\ n <= r.length + 1 := by
 have h1 := Kj wordB r; have h2 := Kj digitB r; have h3 : r.head? = some 61 -> 1 <= r.length := by cases r <;> simp
 unfold Qt at h
 repeat' (split at h)
 all_goals (first | cases h | skip)
 all_goals simp_all
 all_goals omega
theorem O2 : ∀ (f g : Nat) (l : List UInt8) (p : Nat), l.length <= f -> l.length <= g -> Uh f l p = Uh g l p
 | 0, g, l, p, hf, hg => by
   have : l = [] := by simpa using hf
   subst this; cases g <;> rfl
 | f + 1, 0, l, p, hf, hg => by
   have : l = [] := by simpa using hg
   subst this; rfl
 | f + 1, g + 1, [], p, hf, hg => rfl
 | f + 1, g + 1, c :: r, p, hf, hg => by
   simp at hf hg; simp only [Uh]; rw [O2 f g r (p + 1) hf hg, O2 f g (r.drop _) _ (by simp; omega) (by simp; omega)]; cases h : Qt c r with
   | error e => rfl
   | ok v =>
     obtain ⟨k, n, v⟩ := v; simp only []; rw [O2 f g (r.drop (n - 1)) _ (by simp; omega) (by simp; omega)]
def sc (l : List UInt8) (p : Nat) : List Tok × Option (Nat × Nat) := Uh l.length l p
theorem Ce (f : Nat) (l : List UInt8) (p : Nat) (h : l.length <= f) : Uh f l p = sc l p := O2 _ _ _ _ h (lR _)
theorem Cf (p : Nat) : sc [] p = ([], none) := rfl
theorem Lb (c : UInt8) (r : List UInt8) (p : Nat) : sc (c :: r) p =
 if Z2 c then sc r (p + 1)
 else if c = 35 then sc (r.drop (r.takeWhile (· != 10)).length) (p + 1 + (r.takeWhile (· != 10)).length)
 else match Qt c r with
  | .error e => ([], some (e, p))
  | .ok (kind, k, v) => (⟨kind, (c :: r).take k, v, p⟩ :: (sc (r.drop (k - 1)) (p + k)).1, (sc (r.drop (k - 1)) (p + k)).2) := by
 show Uh (r.length + 1) (c :: r) p = _
 simp only [Uh]; rw [Ce r.length r _ (lR _), Ce r.length (r.drop (r.takeWhile (· != 10)).length) _ (by simp)]; cases h : Qt c r with
 | error e => rfl
 | ok v =>
   obtain ⟨k, n, v⟩ := v; simp only []; rw [Ce r.length (r.drop (n - 1)) _ (by simp)]
theorem Rv {M : List UInt8 -> Nat -> Prop} (hn : ∀ p, M [] p)
 (hb : ∀ c r p, Z2 c = true -> M r (p + 1) -> M (c :: r) p)
 (hh : ∀ r p, M (r.drop (r.takeWhile (· != 10)).length) (p + 1 + (r.takeWhile (· != 10)).length) -> M (35 :: r) p)
 (he : ∀ c r p e, Z2 c = false -> c ≠ 35 -> Qt c r = .error e -> M (c :: r) p)
 (ht : ∀ c r p k n v, Z2 c = false -> c ≠ 35 -> Qt c r = .ok (k, n, v) -> M (r.drop (n - 1)) (p + n) -> M (c :: r) p) : ∀ (m : Nat) (l : List UInt8) (p : Nat), l.length <= m -> M l p
 | _, [], p, _ => hn p
 | 0, c :: r, p, h => by simp at h
 | m + 1, c :: r, p, h => by
   simp at h
   by_cases h1 : Z2 c = true
   · exact hb c r p h1 (Rv hn hb hh he ht m r _ h)
   · have h1 : Z2 c = false := by simpa using h1
     by_cases h2 : c = 35
     · subst h2; exact hh r p (Rv hn hb hh he ht m _ _ (by simp; omega))
     · cases h3 : Qt c r with
       | error e => exact he c r p e h1 h2 h3
       | ok v =>
         obtain ⟨k, n, v⟩ := v; exact ht c r p k n v h1 h2 h3 (Rv hn hb hh he ht m _ _ (by simp; omega))
theorem I5 {c : UInt8} (r : List UInt8) (p : Nat) (h : Z2 c = true) : sc (c :: r) p = sc r (p + 1) := by rw [Lb, if_pos h]
theorem Hz (r : List UInt8) (p : Nat) : sc (35 :: r) p = sc (r.drop (r.takeWhile (· != 10)).length) (p + 1 + (r.takeWhile (· != 10)).length) := by
 rw [Lb, if_neg (by decide), if_pos rfl]
theorem Cg {c : UInt8} {r : List UInt8} {e : Nat} (p : Nat) (h1 : Z2 c = false) (h2 : c ≠ 35) (h3 : Qt c r = .error e) : sc (c :: r) p = ([], some (e, p)) := by
 rw [Lb, if_neg (by simp [h1]), if_neg h2, h3]
theorem Gu {c : UInt8} {r : List UInt8} {k n v : Nat} (p : Nat) (h1 : Z2 c = false) (h2 : c ≠ 35) (h3 : Qt c r = .ok (k, n, v)) :
 sc (c :: r) p = (⟨k, (c :: r).take n, v, p⟩ :: (sc (r.drop (n - 1)) (p + n)).1, (sc (r.drop (n - 1)) (p + n)).2) := by
 rw [Lb, if_neg (by simp [h1]), if_neg h2, h3]
theorem Gi {α : Type} {p : α -> Bool} {x : α} (hx : p x = false) (r b : List α) : (r ++ x :: b).takeWhile p = r.takeWhile p := by
 induction r with
 | nil => simp [hx]
 | cons y r ih => simp only [List.cons_append, List.takeWhile_cons, ih]
theorem Mn {c : UInt8} (r b : List UInt8) {x : UInt8} (hx : wordB x = false) (aX : x ≠ 61) : Qt c (r ++ x :: b) = Qt c r := by
 have hd : digitB x = false := by revert hx; unfold wordB; cases digitB x <;> simp
 have h1 : (r ++ x :: b).takeWhile wordB = r.takeWhile wordB := Gi hx r b; have h2 : (r ++ x :: b).takeWhile digitB = r.takeWhile digitB := Gi hd r b; have aG : (r.takeWhile digitB).length <= r.length := Kj _ _
 have h3 : (((r ++ x :: b).drop (r.takeWhile digitB).length).head?.any wordB) = ((r.drop (r.takeWhile digitB).length).head?.any wordB) := by
  rw [List.drop_append_of_le_length aG]; cases hq : r.drop (r.takeWhile digitB).length with
  | nil => simp [hx]
  | cons y q => rfl
 have h4 : ((r ++ x :: b).head? = some 61) = (r.head? = some 61) := by
  cases r with
  | nil => simp [aX]
  | cons y q => rfl
 unfold Qt; rw [h1, h2, h3]; simp only [h4]
def Bv (t : Tok) : Prop := ∃ c r, t.text = c :: r /\ Z2 c = false /\ c ≠ 35 /\ Qt c r = .ok (t.kind, r.length + 1, t.n)
theorem It {α : Type} (p : α -> Bool) (l : List α) (m : Nat) (h : (l.takeWhile p).length <= m) : (l.take m).takeWhile p = l.takeWhile p := by
 induction l generalizing m with
 | nil => simp
 | cons x r ih =>
   cases m with
   | zero =>
     have : (x :: r).takeWhile p = [] := by simpa using h
     rw [this]; rfl
   | succ m =>
     simp only [List.take_succ_cons, List.takeWhile_cons] at h ⊢
     split
     · rename_i hp; rw [if_pos hp] at h; rw [ih m (by simpa using h)]
     · rfl
theorem O8 {α : Type} (l : List α) (m : Nat) (h : 0 < m) : (l.take m).head? = l.head? := by
 cases l with
 | nil => simp
 | cons x r => obtain ⟨k, rfl⟩ : ∃ k, m = k + 1 := ⟨m - 1, by omega⟩; rfl
theorem Fi {c : UInt8} {r : List UInt8} {k n v : Nat} (h : Qt c r = .ok (k, n, v)) (m : Nat) (hm : n - 1 <= m) : Qt c (r.take m) = .ok (k, n, v) := by
 unfold Qt at h ⊢
 by_cases h1 : Ke c = true
 · rw [if_pos h1] at h ⊢
   split at h
   · cases h
   · rename_i hq; injection h with h; injection h with ha h; injection h with hb hc; have aG : (r.takeWhile wordB).length <= m := (by omega)
     rw [It _ _ _ aG, if_neg hq]; subst ha hb hc; rfl
 · rw [if_neg h1] at h ⊢
   by_cases h2 : digitB c = true
   · rw [if_pos h2] at h ⊢
     split at h
     · cases h
     · rename_i hq; injection h with h; injection h with ha h; injection h with hb hc; have aG : (r.takeWhile digitB).length <= m := (by omega)
       have aR : ¬ (((r.take m).drop (r.takeWhile digitB).length).head?.any wordB) = true := by
        rw [List.drop_take]; rcases Nat.eq_zero_or_pos (m - (r.takeWhile digitB).length) with h0 | h0
        · rw [h0]; simp
        · rw [O8 _ _ h0]; exact fun h => hq (.inr h)
       rw [It _ _ _ aG, if_neg (by intro h; rcases h with h | h; exact hq (.inl h); exact aR h)]; subst ha hb hc; rfl
   · rw [if_neg h2] at h ⊢
     by_cases h3 : qch c = true
     · rw [if_pos h3] at h ⊢; exact h
     · rw [if_neg h3] at h ⊢
       by_cases h4 : qcz c = true
       · rw [if_pos h4] at h ⊢
         by_cases h5 : r.head? = some 61
         · rw [if_pos h5] at h; injection h with h; injection h with ha h; injection h with hb hc; rw [O8 _ _ (by omega), if_pos h5]; subst ha hb hc; rfl
         · rw [if_neg h5] at h
           have : ¬ (r.take m).head? = some 61 := by
            rcases Nat.eq_zero_or_pos m with h0 | h0
            · subst h0; simp
            · rw [O8 _ _ h0]; exact h5
           rw [if_neg this]; exact h
       · rw [if_neg h4] at h ⊢
         by_cases h5 : c = 33
         · rw [if_pos h5] at h ⊢
           by_cases h6 : r.head? = some 61
           · rw [if_pos h6] at h; injection h with h; injection h with ha h; injection h with hb hc; rw [O8 _ _ (by omega), if_pos h6]; subst ha hb hc; rfl
           · rw [if_neg h6] at h; cases h
         · rw [if_neg h5] at h; cases h
theorem qjk {c : UInt8} {r : List UInt8} {k n v : Nat} (p : Nat) (h1 : Z2 c = false) (h2 : c ≠ 35) (h3 : Qt c r = .ok (k, n, v)) : Bv ⟨k, (c :: r).take n, v, p⟩ := by
 have hn := G6 h3; obtain ⟨m, rfl⟩ : ∃ m, n = m + 1 := ⟨n - 1, by omega⟩
 refine ⟨c, r.take m, rfl, h1, h2, ?_⟩; have := Fi h3 m (by omega); rw [this]; have : (r.take m).length = m := by simp; omega
 rw [this]
theorem qa6 (l : List UInt8) (p : Nat) : ∀ t ∈ (sc l p).1, Bv t := by
 refine Rv (M := fun l p => ∀ t ∈ (sc l p).1, Bv t) ?_ ?_ ?_ ?_ ?_ l.length l p (lR _)
 · intro p t h; simp [Cf] at h
 · intro c r p h ih; rw [I5 _ _ h]; exact ih
 · intro r p ih; rw [Hz]; exact ih
 · intro c r p e h1 h2 h3 t h; rw [Cg _ h1 h2 h3] at h; simp at h
 · intro c r p j n v h1 h2 h3 ih t h; rw [Gu _ h1 h2 h3] at h; rcases List.mem_cons.1 h with rfl | h
   · exact qjk p h1 h2 h3
   · exact ih t h
def Y9 : Nat -> Nat -> List Tok -> Prop
 | p, q, [] => p <= q
 | p, q, t :: r => p <= t.pos /\ 1 <= t.text.length /\ Y9 (t.pos + t.text.length) q r
theorem Y9.mono {p p' q : Nat} {l : List Tok} (h : Y9 p q l) (hp : p' <= p) : Y9 p' q l := by
 cases l with
 | nil => exact Nat.le_trans hp h
 | cons t r => exact ⟨Nat.le_trans hp h.1, h.2⟩
theorem Y9.le {q : Nat} {l : List Tok} : ∀ {p : Nat}, Y9 p q l -> p + l.length <= q := by
 induction l with
 | nil => intro p h; exact h
 | cons t r ih =>
   intro p h; have := ih h.2.2; have := h.1; have := h.2.1; simp; omega
theorem Y9.mem {q : Nat} {l : List Tok} : ∀ {p : Nat}, Y9 p q l -> ∀ t ∈ l, p <= t.pos /\ 1 <= t.text.length /\ t.pos + t.text.length <= q := by
 induction l with
 | nil => intro p h t ht; simp at ht
 | cons x r ih =>
   intro p h t ht; rcases List.mem_cons.1 ht with rfl | ht
   · have := h.2.2.le; exact ⟨h.1, h.2.1, by omega⟩
   · obtain ⟨a, b, c⟩ := ih h.2.2 t ht; have := h.1; exact ⟨by omega, b, c⟩
theorem qcp (l : List UInt8) (p : Nat) : Y9 p (p + l.length) (sc l p).1 := by
 refine Rv (M := fun l p => Y9 p (p + l.length) (sc l p).1) ?_ ?_ ?_ ?_ ?_ l.length l p (lR _)
 · intro p; exact lR _
 · intro c r p h ih; rw [I5 _ _ h, show p + (c :: r).length = p + 1 + r.length by simp; omega]; exact ih.mono (by omega)
 · intro r p ih; have := Kj (· != 10) r; rw [Hz]; rw [show p + (35 :: r).length = p + 1 + (r.takeWhile (· != 10)).length + (r.drop (r.takeWhile (· != 10)).length).length by simp; omega]; exact ih.mono (by omega)
 · intro c r p e h1 h2 h3; rw [Cg _ h1 h2 h3]; exact Nat.le_add_right _ _
 · intro c r p j n v h1 h2 h3 ih; have hn := G6 h3; rw [Gu _ h1 h2 h3]; have hl : ((c :: r).take n).length = n := by simp; omega
   refine ⟨lR _, by simp only [hl]; omega, ?_⟩; simp only [hl]; rw [show p + (c :: r).length = p + n + (r.drop (n - 1)).length by simp; omega]; exact ih
def pr (ts : List Tok) : R Qf := Q4 (Qk Uo ts)
theorem Kt {l : List UInt8} {ts : List Tok} (h : Zr l = .ok ts) : sc l 0 = (ts, none) /\ ts.length <= 5000 /\ l.length <= 20000 := by
 unfold Zr at h; rw [show Uh l.length l 0 = sc l 0 from rfl] at h
 split at h
 · cases h
 · split at h
   · cases h
   · rename_i hd
     split at h
     · cases h
     · rename_i hn; injection h with h; have aJ := congrArg List.length hd; simp at aJ; refine ⟨Prod.ext h hn, ?_, by omega⟩; rw [<- h]; omega
theorem Cu {l : List UInt8} {ts : List Tok} (h1 : sc l 0 = (ts, none)) (h2 : ts.length <= 5000) (h3 : l.length <= 20000) : Zr l = .ok ts := by
 unfold Zr; rw [show Uh l.length l 0 = sc l 0 from rfl, if_neg (by omega), h1]; simp only []; rw [List.drop_of_length_le h2]
theorem Yw {ts : List Tok} (h : ts.length <= 5000) : ts.length < Uo := by unfold Uo; omega
theorem D3 (ts : List Tok) : (∃ p, Qk Uo ts = .ok (p, []) /\ pr ts = .ok (p, [])) \/ (∃ p t v, Qk Uo ts = .ok (p, t :: v) /\ pr ts = .error (5, t :: v)) \/ ∃ e s, Qk Uo ts = .error (e, s) /\ pr ts = .error (e, s) := by
 unfold pr Q4; cases h : Qk Uo ts with
 | error v => obtain ⟨e, s⟩ := v; exact .inr (.inr ⟨e, s, rfl, rfl⟩)
 | ok v =>
   obtain ⟨p, r⟩ := v; cases r with
   | nil => exact .inl ⟨p, rfl, rfl⟩
   | cons t v => exact .inr (.inl ⟨p, t, v, rfl, rfl⟩)
theorem qh6 {ts : List Tok} (h : ts.length <= 5000) {e : Nat} {s : List Tok} (he : pr ts = .error (e, s)) : e ≠ 0 /\ (e = 6 ↔ s = []) /\ s.length <= ts.length /\ (e = 2 \/ e = 5 \/ e = 6 \/ e = 9 \/ e = 10) := by
 have hs := qcy Uo; rcases D3 ts with ⟨p, h1, h2⟩ | ⟨p, t, v, h1, h2⟩ | ⟨e', s', h1, h2⟩
 · rw [h2] at he; cases he
 · rw [h2] at he; cases he; have := hs.ok _ _ _ (Yw h) h1; simp at this ⊢; omega
 · rw [h2] at he; cases he; obtain ⟨a, b, c, d⟩ := hs.err _ _ _ (Yw h) h1; exact ⟨a, c, b, d⟩
