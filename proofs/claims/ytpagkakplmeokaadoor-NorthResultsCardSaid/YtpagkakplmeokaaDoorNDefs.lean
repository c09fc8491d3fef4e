/- The lexer and the parser as plain functions on lists. -/
set_option linter.unusedVariables false
set_option linter.unusedSimpArgs false
namespace Go.Proofs.YtpagkakplmeokaaDoor
structure Tok where
  kind : Nat
  text : List UInt8
  n : Nat
  pos : Nat
abbrev Bytes := List UInt8
inductive Tree where
  | mk (op : Nat) (name : List UInt8) (cmp n : Nat) (kids : List Tree)
structure Prov where
  id : List UInt8
  rank : Nat
  kind : Nat
  name : List UInt8
  value : Nat
  cond : Tree
  exc : List (List UInt8)
  beg : Tree
  fin : Tree
  aga : Tree
/- bytes -/
def letterB (c : UInt8) : Bool := (97 ≤ c && c ≤ 122) || (65 ≤ c && c ≤ 90)
def digitB (c : UInt8) : Bool := 48 ≤ c && c ≤ 57
def wordB (c : UInt8) : Bool := letterB c || digitB c || c == 95
def blankB (c : UInt8) : Bool := c == 32 || c == 9 || c == 10
def symB (c : UInt8) : Bool := c == 59 || c == 44 || c == 46 || c == 58 || c == 40 || c == 41 || c == 91 || c == 93 || c == 123 || c == 125 || c == 61
def preB (c : UInt8) : Bool := c == 60 || c == 62
def valN (l : List UInt8) : Nat := l.foldl (fun a c => 10 * a + (c.toNat - 48)) 0
/- the token that begins with c, r behind it: kind, length, value; or an error -/
def lexOne (c : UInt8) (r : List UInt8) : Except Nat (Nat × Nat × Nat) :=
  if letterB c then
    if 24 < (r.takeWhile wordB).length + 1 then .error 2 else .ok (1, (r.takeWhile wordB).length + 1, 0)
  else if digitB c then
    if 7 < (r.takeWhile digitB).length + 1 ∨ ((r.drop (r.takeWhile digitB).length).head?.any wordB) = true then .error 4
    else .ok (2, (r.takeWhile digitB).length + 1, valN (c :: r.takeWhile digitB))
  else if symB c then .ok (3, 1, 0)
  else if preB c then (if r.head? = some 61 then .ok (3, 2, 0) else .ok (3, 1, 0))
  else if c = 33 then (if r.head? = some 61 then .ok (3, 2, 0) else .error 3)
  else .error 3
def scan : Nat → List UInt8 → Nat → List Tok × Option (Nat × Nat)
  | 0, _, _ => ([], none)
  | _ + 1, [], _ => ([], none)
  | f + 1, c :: r, p =>
    if blankB c then scan f r (p + 1)
    else if c = 35 then scan f (r.drop (r.takeWhile (· != 10)).length) (p + 1 + (r.takeWhile (· != 10)).length)
    else match lexOne c r with
      | .error e => ([], some (e, p))
      | .ok (kind, k, v) => (⟨kind, (c :: r).take k, v, p⟩ :: (scan f (r.drop (k - 1)) (p + k)).1, (scan f (r.drop (k - 1)) (p + k)).2)
/- the lexer: an error has its offset -/
def lexF (l : List UInt8) : Except (Nat × Int) (List Tok) :=
  if 20000 < l.length then .error (2, -1)
  else match (scan l.length l 0).1.drop 5000 with
    | t :: _ => .error (2, t.pos)
    | [] => match (scan l.length l 0).2 with
      | some (e, p) => .error (e, p)
      | none => .ok (scan l.length l 0).1
/- the parser: an error has the tokens at which it is -/
abbrev R (α : Type) := Except (Nat × List Tok) (α × List Tok)
def bindR {α β : Type} (p : R α) (f : α → List Tok → R β) : R β := match p with | .error e => .error e | .ok (x, r) => f x r
def failC (l : List Tok) : Nat := match l with | [] => 6 | _ :: _ => 5
def failR {α : Type} (l : List Tok) : R α := .error (failC l, l)
def isWord (t : Tok) : Bool := t.kind == 1 || t.kind == 3
def keyWords : List (List UInt8) := [[99, 111, 110, 115, 116, 105, 116, 117, 116, 105, 111, 110], [97, 99, 116], [114, 101, 103, 117, 108, 97, 116, 105, 111, 110], [98, 121, 108, 97, 119], [100, 101, 102, 105, 110, 101], [97, 110, 115, 119, 101, 114], [105, 115], [105, 102], [110, 111, 116, 119, 105, 116, 104, 115, 116, 97, 110, 100, 105, 110, 103], [102, 114, 111, 109], [117, 110, 116, 105, 108], [97, 103, 97, 105, 110], [111, 114], [97, 110, 100], [110, 111, 116], [116, 114, 117, 101], [102, 97, 108, 115, 101], [97, 108, 119, 97, 121, 115], [110, 101, 118, 101, 114], [100, 97, 121], [111, 114, 100, 101, 114], [101, 118, 101, 110, 116], [98, 101, 103, 117, 110], [111, 118, 101, 114]]
def keyF (s : List UInt8) : Bool := keyWords.contains s
def takeF (ws : List (List UInt8)) (l : List Tok) : Option Nat × List Tok :=
  match l with
  | [] => (none, [])
  | t :: r => if isWord t then (match ws.idxOf? t.text with | some i => (some i, r) | none => (none, t :: r)) else (none, t :: r)
def optF {α : Type} (ws : List (List UInt8)) (l : List Tok) (yes : Nat → List Tok → R α) (no : List Tok → R α) : R α :=
  match takeF ws l with
  | (some i, r) => yes i r
  | (none, r) => no r
def mustF (ws : List (List UInt8)) (l : List Tok) : R Nat := optF ws l (fun i r => .ok (i, r)) failR
def nameF (l : List Tok) : R (List UInt8) :=
  match l with
  | [] => failR []
  | t :: r => if t.kind == 1 && !keyF t.text then .ok (t.text, r) else failR (t :: r)
def numberF (most : Nat) (l : List Tok) : R Nat :=
  match l with
  | [] => failR []
  | t :: r => if t.kind == 2 then (if most < t.n then .error (10, t :: r) else .ok (t.n, r)) else failR (t :: r)
def severalL {α : Type} (one : List Tok → R α) (w : List UInt8) : Nat → List Tok → R (List α)
  | 0, l => .error (0, l)
  | k + 1, l => bindR (one l) fun x r => optF [w] r (fun _ r' => bindR (severalL one w k r') fun xs r'' => .ok (x :: xs, r'')) (fun r' => .ok ([x], r'))
def joinT (op : Nat) (l : List Tree) : Tree := match l with | [x] => x | l => .mk op [] 0 0 l
def severalF (one : List Tok → R Tree) (w : List UInt8) (op : Nat) (n : Nat) (l : List Tok) : R Tree := bindR (severalL one w n l) fun xs r => .ok (joinT op xs, r)
def andF (one : List Tok → R Tree) (op n : Nat) : List Tok → R Tree := severalF one [97, 110, 100] op n
def orF (one : List Tok → R Tree) (op op2 n : Nat) : List Tok → R Tree := severalF (andF one op n) [111, 114] op2 n
def atomF : Nat → List Tok → R Tree
  | 0, l => .error (0, l)
  | n + 1, l => optF [[110, 111, 116], [40], [116, 114, 117, 101], [102, 97, 108, 115, 101]] l
      (fun i r => match i with
        | 0 => bindR (atomF n r) fun f r' => .ok (.mk 5 [] 0 0 [f], r')
        | 1 => bindR (orF (atomF n) 6 7 n r) fun f r' => bindR (mustF [[41]] r') fun _ r'' => .ok (f, r'')
        | 2 => .ok (.mk 1 [] 0 0 [], r)
        | _ => .ok (.mk 2 [] 0 0 [], r))
      (fun r => bindR (nameF r) fun s r' => optF [[61], [33, 61], [60], [60, 61], [62], [62, 61]] r'
        (fun c r'' => bindR (numberF 1000000 r'') fun v r3 => .ok (.mk 3 s (1 + c) v [], r3))
        (fun r'' => .ok (.mk 4 s 0 0 [], r'')))
def oneF : Nat → List Tok → R Tree
  | 0, l => .error (0, l)
  | n + 1, l => bindR (mustF [[97, 108, 119, 97, 121, 115], [110, 101, 118, 101, 114], [100, 97, 121], [40], [111, 114, 100, 101, 114], [101, 118, 101, 110, 116], [98, 101, 103, 117, 110], [111, 118, 101, 114]] l) fun i r =>
      match i with
      | 0 => .ok (.mk 1 [] 0 0 [], r)
      | 1 => .ok (.mk 2 [] 0 0 [], r)
      | 2 => bindR (numberF 1000000 r) fun v r' => .ok (.mk 3 [] 0 v [], r')
      | 3 => bindR (orF (oneF n) 8 9 n r) fun f r' => bindR (mustF [[41]] r') fun _ r'' => .ok (f, r'')
      | k + 4 => bindR (nameF r) fun s r' => .ok (.mk (4 + k) s 0 0 [], r')
def condF (n : Nat) : List Tok → R Tree := orF (atomF n) 6 7 n
def startF (n : Nat) : List Tok → R Tree := orF (oneF n) 8 9 n
mutual
def Tree.size : Tree → Nat
  | .mk _ _ _ _ ks => 1 + sizes ks
def sizes : List Tree → Nat
  | [] => 0
  | t :: r => t.size + sizes r
end
mutual
def Tree.deep : Tree → Nat
  | .mk _ _ _ _ ks => deeps ks + 1
def deeps : List Tree → Nat
  | [] => 0
  | t :: r => max t.deep (deeps r)
end
def guardR {α : Type} (l : List Tok) (e : Nat) (x : R α) : R α := if e = 0 then x else .error (e, l)
def boundC (x : Tree) : Nat := if 20 < x.deep ∨ 200 < x.size then 2 else 0
def boundedF (p : List Tok → R Tree) (l : List Tok) : R Tree := bindR (p l) fun x r => guardR l (boundC x) (.ok (x, r))
def whenF (n : Nat) (w : List UInt8) (op : Nat) (l : List Tok) : R Tree := optF [w] l (fun _ r => boundedF (startF n) r) (fun r => .ok (.mk op [] 0 0 [], r))
def excC (out : List (List UInt8)) (s : List UInt8) : Nat := if out.contains s then 9 else if out.length = 20 then 2 else 0
def exceptF : Nat → List (List UInt8) → List Tok → R (List (List UInt8))
  | 0, _, l => .error (0, l)
  | n + 1, out, l => bindR (nameF l) fun s r =>
      guardR l (excC out s) <| optF [[44]] r (fun _ r' => exceptF n (out ++ [s]) r') (fun r' => .ok (out ++ [s], r'))
def kindF (l : List Tok) : R (Nat × List UInt8 × Nat) :=
  bindR (mustF [[100, 101, 102, 105, 110, 101], [97, 110, 115, 119, 101, 114]] l) fun i r => match i with
    | 0 => bindR (nameF r) fun s r' => .ok ((1, s, 0), r')
    | _ => bindR (nameF r) fun s r' => bindR (mustF [[105, 115]] r') fun _ r'' => bindR (numberF 1000000 r'') fun v r3 => .ok ((2, s, v), r3)
def ifF (n : Nat) (l : List Tok) : R Tree := optF [[105, 102]] l (fun _ r => boundedF (condF n) r) (fun r => .ok (.mk 1 [] 0 0 [], r))
def excF (l : List Tok) : R (List (List UInt8)) := optF [[110, 111, 116, 119, 105, 116, 104, 115, 116, 97, 110, 100, 105, 110, 103]] l (fun _ r => exceptF 22 [] r) (fun r => .ok ([], r))
/- all but the last point -/
def bodyF (n : Nat) (l : List Tok) : R Prov :=
  bindR (mustF [[99, 111, 110, 115, 116, 105, 116, 117, 116, 105, 111, 110], [97, 99, 116], [114, 101, 103, 117, 108, 97, 116, 105, 111, 110], [98, 121, 108, 97, 119]] l) fun rank r1 =>
  bindR (nameF r1) fun id r2 =>
  bindR (mustF [[58]] r2) fun _ r3 =>
  bindR (kindF r3) fun k r4 =>
  bindR (ifF n r4) fun cond r5 =>
  bindR (excF r5) fun exc r6 =>
  bindR (whenF n [102, 114, 111, 109] 1 r6) fun beg r7 =>
  bindR (whenF n [117, 110, 116, 105, 108] 2 r7) fun fin r8 =>
  bindR (whenF n [97, 103, 97, 105, 110] 2 r8) fun aga r9 =>
  .ok (⟨id, 1 + rank, k.1, k.2.1, k.2.2, cond, exc, beg, fin, aga⟩, r9)
def provF (n : Nat) (l : List Tok) : R Prov := bindR (bodyF n l) fun p r => bindR (mustF [[46]] r) fun _ r' => .ok (p, r')
def endF {α : Type} (p : R α) : R α := bindR p fun x r => match r with | [] => .ok (x, []) | _ :: _ => failR r
def fuelN : Nat := 6000
def posAt (fin : Nat) (l : List Tok) : Nat := match l with | [] => fin | t :: _ => t.pos
/- Parse: the provision, or an error and its offset -/
def parseF (l : List UInt8) : Except (Nat × Int) Prov :=
  match lexF l with
  | .error e => .error e
  | .ok ts => match endF (provF fuelN ts) with
    | .error (e, s) => .error (e, posAt l.length s)
    | .ok (p, _) => .ok p
end Go.Proofs.YtpagkakplmeokaaDoor
