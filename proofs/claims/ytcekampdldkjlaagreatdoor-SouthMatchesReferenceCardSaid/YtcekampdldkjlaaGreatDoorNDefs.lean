/- The lexer and the parser as plain functions on lists. -/
set_option linter.unusedVariables false
set_option linter.unusedSimpArgs false
namespace Go.Proofs.YtcekampdldkjlaaGreatDoor
structure Tok where
  kind : Nat
  text : List UInt8
  n : Nat
  pos : Nat
abbrev Bytes := List UInt8
inductive Tree where
  | mk (op : Nat) (name : List UInt8) (cmp n : Nat) (kids : List Tree)
structure Prov where
  id : List UInt8
  rank : Nat
  kind : Nat
  name : List UInt8
  value : Nat
  cond : Tree
  exc : List (List UInt8)
  beg : Tree
  fin : Tree
  aga : Tree
/- bytes -/
def letterB (c : UInt8) : Bool := (97 ≤ c && c ≤ 122) || (65 ≤ c && c ≤ 90)
def digitB (c : UInt8) : Bool := 48 ≤ c && c ≤ 57
def wordB (c : UInt8) : Bool := letterB c || digitB c || c == 95
def blankB (c : UInt8) : Bool := c == 32 || c == 9 || c == 10
def symB (c : UInt8) : Bool := c == 59 || c == 44 || c == 46 || c == 58 || c == 40 || c == 41 || c == 91 || c == 93 || c == 123 || c == 125 || c == 61
def preB (c : UInt8) : Bool := c == 60 || c == 62
def valN (l : List UInt8) : Nat := l.foldl (fun a c => 10 * a + (c.toNat - 48)) 0
/- the token that begins with c, r behind it: kind, length, value; or an error -/
def lexOne (c : UInt8) (r : List UInt8) : Except Nat (Nat × Nat × Nat) :=
  if letterB c then
    if 24 < (r.takeWhile wordB).length + 1 then .error 2 else .ok (1, (r.takeWhile wordB).length + 1, 0)
  else if digitB c then
    if 7 < (r.takeWhile digitB).length + 1 ∨ ((r.drop (r.takeWhile digitB).length).head?.any wordB) = true then .error 4
    else .ok (2, (r.takeWhile digitB).length + 1, valN (c :: r.takeWhile digitB))
  else if symB c then .ok (3, 1, 0)
  else if preB c then (if r.head? = some 61 then .ok (3, 2, 0) else .ok (3, 1, 0))
  else if c = 33 then (if r.head? = some 61 then .ok (3, 2, 0) else .error 3)
  else .error 3
def scan : Nat → List UInt8 → Nat → List Tok × Option (Nat × Nat)
  | 0, _, _ => ([], none)
  | _ + 1, [], _ => ([], none)
  | f + 1, c :: r, p =>
    if blankB c then scan f r (p + 1)
    else if c = 35 then scan f (r.drop (r.takeWhile (· != 10)).length) (p + 1 + (r.takeWhile (· != 10)).length)
    else match lexOne c r with
      | .error e => ([], some (e, p))
      | .ok (kind, k, v) => (⟨kind, (c :: r).take k, v, p⟩ :: (scan f (r.drop (k - 1)) (p + k)).1, (scan f (r.drop (k - 1)) (p + k)).2)
/- the lexer: an error has its offset -/
def lexF (l : List UInt8) : Except (Nat × Int) (List Tok) :=
  if 20000 < l.length then .error (2, -1)
  else match (scan l.length l 0).1.drop 5000 with
    | t :: _ => .error (2, t.pos)
    | [] => match (scan l.length l 0).2 with
      | some (e, p) => .error (e, p)
      | none => .ok (scan l.length l 0).1
/- the parser: an error has the tokens at which it is -/
abbrev R (α : Type) := Except (Nat × List Tok) (α × List Tok)
def bindR {α β : Type} (p : R α) (f : α → List Tok → R β) : R β := match p with | .error e => .error e | .ok (x, r) => f x r
def failC (l : List Tok) : Nat := match l with | [] => 6 | _ :: _ => 5
def failR {α : Type} (l : List Tok) : R α := .error (failC l, l)
def isWord (t : Tok) : Bool := t.kind == 1 || t.kind == 3
def keyWords : List (List UInt8) := [[119, 104, 101, 114, 101], [116, 101, 114, 109], [113, 117, 101, 115, 116, 105, 111, 110], [103, 105, 118, 101, 115], [111, 118, 101, 114, 114, 105, 100, 101, 115], [115, 116, 97, 114, 116, 115], [101, 110, 100, 115], [114, 101, 116, 117, 114, 110, 115], [99, 104, 97, 114, 116, 101, 114], [115, 116, 97, 116, 117, 116, 101], [111, 114, 100, 101, 114], [114, 117, 108, 101], [121, 101, 115], [110, 111], [101, 113, 117, 97, 108], [117, 110, 108, 105, 107, 101], [98, 101, 108, 111, 119], [109, 111, 115, 116], [97, 98, 111, 118, 101], [108, 101, 97, 115, 116], [100, 101, 102, 105, 110, 101, 100], [110, 101, 103, 97, 116, 101, 100], [97, 108, 108], [97, 110, 121], [97, 108, 119, 97, 121, 115], [110, 101, 118, 101, 114], [100, 97, 121], [100, 101, 99, 114, 101, 101], [101, 118, 101, 110, 116], [98, 101, 103, 117, 110], [111, 118, 101, 114]]
def keyF (s : List UInt8) : Bool := keyWords.contains s
/- is the next token one of these words? -/
def seesF (ws : List (List UInt8)) (l : List Tok) : Bool := match l with | [] => false | t :: _ => isWord t && ws.contains t.text
def isF {α : Type} (w : List UInt8) (l : List Tok) (yes no : List Tok → R α) : R α := if seesF [w] l then yes l.tail else no l
def mustF (w : List UInt8) (l : List Tok) : R Unit := isF w l (fun r => .ok ((), r)) failR
def isNameF (l : List Tok) : Bool := match l with | [] => false | t :: _ => t.kind == 1 && !keyF t.text
def nameF (l : List Tok) : R (List UInt8) :=
  match l with
  | [] => failR []
  | t :: r => if t.kind == 1 && !keyF t.text then .ok (t.text, r) else failR (t :: r)
def numberF (l : List Tok) : R Nat :=
  match l with
  | [] => failR []
  | t :: r => if t.kind == 2 then .ok (t.n, r) else failR (t :: r)
def limitF (most : Nat) (l : List Tok) : R Nat := bindR (numberF l) fun v r => if most < v then .error (10, l) else .ok (v, r)
def chooseF (ws : List (List UInt8)) (l : List Tok) : R Nat :=
  match l with
  | [] => failR []
  | t :: r => if t.kind == 1 then (match ws.idxOf? t.text with | some i => .ok (i, r) | none => failR (t :: r)) else failR (t :: r)
abbrev Stack := List (Tree × Nat)
def deepK (l : Stack) : Nat := l.foldl (fun d x => max d (x.2 + 1)) 1
def combineF (op k : Nat) (at' : List Tok) (st : Stack) (r : List Tok) : R Stack :=
  if st.length < k then .error (5, at')
  else if 20 < deepK (st.drop (st.length - k)) then .error (2, at')
  else .ok (st.take (st.length - k) ++ [(.mk op [] 0 0 ((st.drop (st.length - k)).map (·.1)), deepK (st.drop (st.length - k)))], r)
/- the number behind all or any: at' begins with this word -/
def groupF (op : Nat) (at' : List Tok) (st : Stack) (l : List Tok) : R Stack :=
  bindR (numberF l) fun k r => if k < 2 then .error (5, at') else combineF op k at' st r
def pushF (st : Stack) (t : Tree) (r : List Tok) : R Stack := .ok (st ++ [(t, 1)], r)
def testF (st : Stack) (s : List UInt8) (r : List Tok) : R Stack :=
  bindR (limitF 1000000 r) fun v r2 => bindR (chooseF [[101, 113, 117, 97, 108], [117, 110, 108, 105, 107, 101], [98, 101, 108, 111, 119], [109, 111, 115, 116], [97, 98, 111, 118, 101], [108, 101, 97, 115, 116]] r2) fun c r3 => pushF st (.mk 3 s (1 + c) v []) r3
def itemF (st : Stack) (l : List Tok) : R Stack :=
  isF [121, 101, 115] l (fun r => pushF st (.mk 1 [] 0 0 []) r) fun l =>
  isF [110, 111] l (fun r => pushF st (.mk 2 [] 0 0 []) r) fun l =>
  isF [110, 101, 103, 97, 116, 101, 100] l (fun r => combineF 5 1 l st r) fun l =>
  isF [97, 108, 108] l (fun r => groupF 6 l st r) fun l =>
  isF [97, 110, 121] l (fun r => groupF 7 l st r) fun l =>
  bindR (nameF l) fun s r =>
  isF [100, 101, 102, 105, 110, 101, 100] r (fun r => pushF st (.mk 4 s 0 0 []) r) (testF st s)
def sitemF (st : Stack) (l : List Tok) : R Stack :=
  isF [97, 108, 119, 97, 121, 115] l (fun r => pushF st (.mk 1 [] 0 0 []) r) fun l =>
  isF [110, 101, 118, 101, 114] l (fun r => pushF st (.mk 2 [] 0 0 []) r) fun l =>
  isF [97, 108, 108] l (fun r => groupF 8 l st r) fun l =>
  isF [97, 110, 121] l (fun r => groupF 9 l st r) fun l =>
  if (l.head?.any fun t => t.kind == 2) then bindR (limitF 1000000 l) fun v r => bindR (mustF [100, 97, 121] r) fun _ r => pushF st (.mk 3 [] 0 v []) r
  else bindR (nameF l) fun s r => bindR (chooseF [[100, 101, 99, 114, 101, 101], [101, 118, 101, 110, 116], [98, 101, 103, 117, 110], [111, 118, 101, 114]] r) fun c r => pushF st (.mk (4 + c) s 0 0 []) r
def beginsF (l : List Tok) : Bool := isNameF l || seesF [[121, 101, 115], [110, 111], [110, 101, 103, 97, 116, 101, 100], [97, 108, 108], [97, 110, 121]] l
def beginsS (l : List Tok) : Bool := isNameF l || seesF [[97, 108, 119, 97, 121, 115], [110, 101, 118, 101, 114], [97, 108, 108], [97, 110, 121]] l || (l.head?.any fun t => t.kind == 2)
/- what stands in braces: f - 1 items may still come -/
def loopF (begins : List Tok → Bool) (item : Stack → List Tok → R Stack) : Nat → Stack → List Tok → R Stack
  | 0, _, l => .error (0, l)
  | f + 1, st, l =>
    if seesF [[125]] l then .ok (st, l)
    else if begins l then (if f = 0 then .error (2, l) else bindR (item st l) fun st r => loopF begins item f st r)
    else failR l
def topF (st : Stack) (l : List Tok) : R Tree := match st with | [x] => bindR (mustF [125] l) fun _ r => .ok (x.1, r) | _ => failR l
def bracesF (begins : List Tok → Bool) (item : Stack → List Tok → R Stack) (l : List Tok) : R Tree :=
  bindR (mustF [123] l) fun _ r => bindR (loopF begins item 201 [] r) topF
def formulaF : List Tok → R Tree := bracesF beginsF itemF
def startF : List Tok → R Tree := bracesF beginsS sitemF
def guardR {α : Type} (l : List Tok) (e : Nat) (x : R α) : R α := if e = 0 then x else .error (e, l)
def excC (out : List (List UInt8)) (s : List UInt8) : Nat := if out.contains s then 9 else if out.length = 20 then 2 else 0
def namesF : Nat → List (List UInt8) → List Tok → R (List (List UInt8))
  | 0, _, l => .error (0, l)
  | n + 1, out, l => bindR (nameF l) fun s r => guardR l (excC out s) <| isF [41] r (fun r => .ok (out ++ [s], r)) fun r => namesF n (out ++ [s]) r
def excF (l : List Tok) : R (List (List UInt8)) := bindR (mustF [40] l) fun _ r => namesF 22 [] r
def optR {α : Type} (w : List UInt8) (d : α) (p : List Tok → R α) (l : List Tok) : R α := isF w l p fun r => .ok (d, r)
def leafT (op : Nat) : Tree := .mk op [] 0 0 []
/- kind, name, value -/
def kindF (l : List Tok) : R (Nat × List UInt8 × Nat) :=
  isF [116, 101, 114, 109] l (fun r => bindR (nameF r) fun s r => .ok ((1, s, 0), r)) fun l =>
  bindR (mustF [113, 117, 101, 115, 116, 105, 111, 110] l) fun _ r => bindR (nameF r) fun s r => bindR (mustF [103, 105, 118, 101, 115] r) fun _ r => bindR (limitF 1000000 r) fun v r => .ok ((2, s, v), r)
def provF (l : List Tok) : R Prov :=
  bindR (optR [119, 104, 101, 114, 101] (leafT 1) formulaF l) fun cond r1 =>
  bindR (kindF r1) fun k r2 =>
  bindR (optR [111, 118, 101, 114, 114, 105, 100, 101, 115] [] excF r2) fun exc r3 =>
  bindR (optR [115, 116, 97, 114, 116, 115] (leafT 1) startF r3) fun beg r4 =>
  bindR (optR [101, 110, 100, 115] (leafT 2) startF r4) fun fin r5 =>
  bindR (optR [114, 101, 116, 117, 114, 110, 115] (leafT 2) startF r5) fun aga r6 =>
  bindR (mustF [91] r6) fun _ r7 =>
  bindR (chooseF [[99, 104, 97, 114, 116, 101, 114], [115, 116, 97, 116, 117, 116, 101], [111, 114, 100, 101, 114], [114, 117, 108, 101]] r7) fun rank r8 =>
  bindR (nameF r8) fun id r9 =>
  bindR (mustF [93] r9) fun _ r10 =>
  .ok (⟨id, 1 + rank, k.1, k.2.1, k.2.2, cond, exc, beg, fin, aga⟩, r10)
def endF {α : Type} (p : R α) : R α := bindR p fun x r => match r with | [] => .ok (x, []) | _ :: _ => failR r
def posAt (fin : Nat) (l : List Tok) : Nat := match l with | [] => fin | t :: _ => t.pos
def pr (l : List Tok) : R Prov := endF (provF l)
/- Parse: the provision, or an error and its offset -/
def parseF (l : List UInt8) : Except (Nat × Int) Prov :=
  match lexF l with
  | .error e => .error e
  | .ok ts => match pr ts with
    | .error (e, s) => .error (e, posAt l.length s)
    | .ok (p, _) => .ok p
mutual
def Tree.size : Tree → Nat
  | .mk _ _ _ _ ks => 1 + sizes ks
def sizes : List Tree → Nat
  | [] => 0
  | t :: r => t.size + sizes r
end
mutual
def Tree.deep : Tree → Nat
  | .mk _ _ _ _ ks => deeps ks + 1
def deeps : List Tree → Nat
  | [] => 0
  | t :: r => max t.deep (deeps r)
end

end Go.Proofs.YtcekampdldkjlaaGreatDoor
