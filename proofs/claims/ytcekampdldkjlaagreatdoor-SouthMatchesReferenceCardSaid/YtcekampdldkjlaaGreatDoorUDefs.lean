/- The reference's reader as plain functions. -/
import Derived.Test.YtcekampdldkjlaaGreatDoorNDefs
set_option linter.unusedVariables false
set_option linter.unusedSimpArgs false
namespace Go.Proofs.YtcekampdldkjlaaGreatDoor

def zT : Tok := ⟨0, [], 0, 0⟩
structure Rs where
  i : Nat
  e : Nat
  a : Int
def Rs.flt (s : Rs) (e : Nat) (a : Int) : Rs := if s.e = 0 then ⟨s.i, e, a⟩ else s
def Rs.next (s : Rs) : Rs := ⟨s.i + 1, s.e, s.a⟩
def tokA (ts : List Tok) (s : Rs) : Tok := (ts[s.i]?).getD zT
def failA (ts : List Tok) (fin : Nat) (s : Rs) : Rs := match ts[s.i]? with | some t => s.flt 5 t.pos | none => s.flt 6 fin
def seesA (ts : List Tok) (s : Rs) (w : List UInt8) : Bool := s.e == 0 && (match ts[s.i]? with | some t => t.kind != 2 && t.text == w | none => false)
def isA (ts : List Tok) (s : Rs) (w : List UInt8) : Rs := if seesA ts s w then s.next else s
def mustA (ts : List Tok) (fin : Nat) (s : Rs) (w : List UInt8) : Rs := if seesA ts s w then s.next else failA ts fin s
def namedA (ts : List Tok) (s : Rs) : Bool := s.e == 0 && (match ts[s.i]? with | some t => t.kind == 1 && !keyF t.text | none => false)
def isNumA (ts : List Tok) (s : Rs) : Bool := s.e == 0 && (match ts[s.i]? with | some t => t.kind == 2 | none => false)
def nameA (ts : List Tok) (fin : Nat) (s : Rs) : Tok × Rs := if namedA ts s then (tokA ts s, s.next) else (zT, failA ts fin s)
def numberA (ts : List Tok) (fin : Nat) (s : Rs) (most : Nat) : Nat × Rs :=
  if isNumA ts s then ((tokA ts s).n, if most < (tokA ts s).n then s.next.flt 10 (tokA ts s).pos else s.next) else (0, failA ts fin s)
def oneA (ts : List Tok) (fin : Nat) (s : Rs) (ws : List (List UInt8)) : Nat × Rs := match ws.findIdx? (seesA ts s) with | some k => (k, s.next) | none => (0, failA ts fin s)
def combineA (st : Stack) (op k : Nat) (at' : Int) (s : Rs) : Stack × Rs :=
  if s.e ≠ 0 then (st, s)
  else if st.length < k then (st, s.flt 5 at')
  else (st.take (st.length - k) ++ [(.mk op [] 0 0 ((st.drop (st.length - k)).map (·.1)), deepK (st.drop (st.length - k)))], if 20 < deepK (st.drop (st.length - k)) then s.flt 2 at' else s)
def groupB (at' : Int) (y : Nat × Rs) : Rs := if y.2.e = 0 ∧ y.1 < 2 then y.2.flt 5 at' else y.2
def groupA (ts : List Tok) (fin : Nat) (st : Stack) (o1 o2 : Nat) (s : Rs) : Stack × Rs :=
  combineA st (if (oneA ts fin s [[97, 108, 108], [97, 110, 121]]).1 = 0 then o1 else o2) (numberA ts fin (oneA ts fin s [[97, 108, 108], [97, 110, 121]]).2 100000000).1 (tokA ts s).pos
    (groupB (tokA ts s).pos (numberA ts fin (oneA ts fin s [[97, 108, 108], [97, 110, 121]]).2 100000000))
abbrev cmpW : List (List UInt8) := [[101, 113, 117, 97, 108], [117, 110, 108, 105, 107, 101], [98, 101, 108, 111, 119], [109, 111, 115, 116], [97, 98, 111, 118, 101], [108, 101, 97, 115, 116]]
abbrev opsW : List (List UInt8) := [[100, 101, 99, 114, 101, 101], [101, 118, 101, 110, 116], [98, 101, 103, 117, 110], [111, 118, 101, 114]]
abbrev rankW : List (List UInt8) := [[99, 104, 97, 114, 116, 101, 114], [115, 116, 97, 116, 117, 116, 101], [111, 114, 100, 101, 114], [114, 117, 108, 101]]
def itemA (ts : List Tok) (fin : Nat) (st : Stack) (s : Rs) : Stack × Rs :=
  if seesA ts s [121, 101, 115] then (st ++ [(leafT 1, 1)], s.next)
  else if seesA ts s [110, 111] then (st ++ [(leafT 2, 1)], s.next)
  else if seesA ts s [110, 101, 103, 97, 116, 101, 100] then combineA st 5 1 (tokA ts s).pos s.next
  else if seesA ts s [97, 108, 108] || seesA ts s [97, 110, 121] then groupA ts fin st 6 7 s
  else if seesA ts (nameA ts fin s).2 [100, 101, 102, 105, 110, 101, 100] then (st ++ [(.mk 4 (nameA ts fin s).1.text 0 0 [], 1)], (nameA ts fin s).2.next)
  else (st ++ [(.mk 3 (nameA ts fin s).1.text (1 + (oneA ts fin (numberA ts fin (nameA ts fin s).2 1000000).2 cmpW).1) (numberA ts fin (nameA ts fin s).2 1000000).1 [], 1)], (oneA ts fin (numberA ts fin (nameA ts fin s).2 1000000).2 cmpW).2)
def sitemA (ts : List Tok) (fin : Nat) (st : Stack) (s : Rs) : Stack × Rs :=
  if seesA ts s [97, 108, 119, 97, 121, 115] then (st ++ [(leafT 1, 1)], s.next)
  else if seesA ts s [110, 101, 118, 101, 114] then (st ++ [(leafT 2, 1)], s.next)
  else if seesA ts s [97, 108, 108] || seesA ts s [97, 110, 121] then groupA ts fin st 8 9 s
  else if isNumA ts s then (st ++ [(.mk 3 [] 0 (numberA ts fin s 1000000).1 [], 1)], mustA ts fin (numberA ts fin s 1000000).2 [100, 97, 121])
  else (st ++ [(.mk (4 + (oneA ts fin (nameA ts fin s).2 opsW).1) (nameA ts fin s).1.text 0 0 [], 1)], (oneA ts fin (nameA ts fin s).2 opsW).2)
def someItemA (starts : Bool) (ts : List Tok) (fin : Nat) (st : Stack) (s : Rs) : Stack × Rs := if starts then sitemA ts fin st s else itemA ts fin st s
def beginsA (ts : List Tok) (s : Rs) (starts : Bool) : Bool :=
  namedA ts s || seesA ts s [97, 108, 108] || seesA ts s [97, 110, 121] || (if starts then seesA ts s [97, 108, 119, 97, 121, 115] || seesA ts s [110, 101, 118, 101, 114] || isNumA ts s else seesA ts s [121, 101, 115] || seesA ts s [110, 111] || seesA ts s [110, 101, 103, 97, 116, 101, 100])
/- the items; true: it was left with an error -/
def loopA (starts : Bool) (ts : List Tok) (fin : Nat) : Nat → Stack → Rs → Stack × Rs × Bool
  | 0, st, s => (st, s, true)
  | f + 1, st, s =>
    if s.e ≠ 0 ∨ seesA ts s [125] = true then (st, s, false)
    else if beginsA ts s starts = false then (st, failA ts fin s, true)
    else if f = 0 then (st, s.flt 2 (tokA ts s).pos, true)
    else loopA starts ts fin f (someItemA starts ts fin st s).1 (someItemA starts ts fin st s).2
def zeroE : Tree × Nat := (.mk 0 [] 0 0 [], 0)
def topA (ts : List Tok) (fin : Nat) (x : Stack × Rs × Bool) : (Tree × Nat) × Rs :=
  if x.2.2 then (zeroE, x.2.1)
  else if (mustA ts fin (if seesA ts x.2.1 [125] = true ∧ x.1.length ≠ 1 then failA ts fin x.2.1 else x.2.1) [125]).e ≠ 0 then (zeroE, mustA ts fin (if seesA ts x.2.1 [125] = true ∧ x.1.length ≠ 1 then failA ts fin x.2.1 else x.2.1) [125])
  else (x.1.headD zeroE, mustA ts fin (if seesA ts x.2.1 [125] = true ∧ x.1.length ≠ 1 then failA ts fin x.2.1 else x.2.1) [125])
def bracesA (starts : Bool) (ts : List Tok) (fin : Nat) (s : Rs) : (Tree × Nat) × Rs := topA ts fin (loopA starts ts fin 201 [] (mustA ts fin s [123]))
def onceA (l : List (List UInt8)) (t : Tok × Rs) : Rs := if t.2.e = 0 ∧ l.contains t.1.text = true then t.2.flt 9 t.1.pos else t.2
def fullA (l : List (List UInt8)) (a : Int) (s : Rs) : Rs := if s.e = 0 ∧ l.length = 20 then s.flt 2 a else s
def namesL (ts : List Tok) (fin : Nat) : Nat → List (List UInt8) → Rs → List (List UInt8) × Rs
  | 0, l, s => (l, s)
  | f + 1, l, s =>
    if s.e ≠ 0 ∨ (l ≠ [] ∧ seesA ts s [41] = true) then (l, s)
    else namesL ts fin f (l ++ [(nameA ts fin s).1.text]) (fullA l (nameA ts fin s).1.pos (onceA l (nameA ts fin s)))
def namesA (ts : List Tok) (fin : Nat) (s : Rs) : List (List UInt8) × Rs := ((namesL ts fin 22 [] (mustA ts fin s [40])).1, mustA ts fin (namesL ts fin 22 [] (mustA ts fin s [40])).2 [41])
/- the parts of a provision -/
def partA {α : Type} (ts : List Tok) (w : List UInt8) (d : α) (P : Rs → α × Rs) (s : Rs) : α × Rs := if seesA ts s w then P s.next else (d, s)
def treeA (starts : Bool) (ts : List Tok) (fin : Nat) (s : Rs) : Tree × Rs := ((bracesA starts ts fin s).1.1, (bracesA starts ts fin s).2)
def kindA (ts : List Tok) (fin : Nat) (s : Rs) : (Nat × List UInt8 × Nat) × Rs :=
  if seesA ts s [116, 101, 114, 109] then ((1, (nameA ts fin s.next).1.text, 0), (nameA ts fin s.next).2)
  else ((2, (nameA ts fin (mustA ts fin s [113, 117, 101, 115, 116, 105, 111, 110])).1.text, (numberA ts fin (mustA ts fin (nameA ts fin (mustA ts fin s [113, 117, 101, 115, 116, 105, 111, 110])).2 [103, 105, 118, 101, 115]) 1000000).1), (numberA ts fin (mustA ts fin (nameA ts fin (mustA ts fin s [113, 117, 101, 115, 116, 105, 111, 110])).2 [103, 105, 118, 101, 115]) 1000000).2)
def tailA (ts : List Tok) (fin : Nat) (s : Rs) : (Nat × List UInt8) × Rs :=
  ((1 + (oneA ts fin (mustA ts fin s [91]) rankW).1, (nameA ts fin (oneA ts fin (mustA ts fin s [91]) rankW).2).1.text), mustA ts fin (nameA ts fin (oneA ts fin (mustA ts fin s [91]) rankW).2).2 [93])
def endA (ts : List Tok) (fin : Nat) (s : Rs) : Rs := if s.e = 0 ∧ s.i < ts.length then failA ts fin s else s
structure Parts where
  cond : Tree × Rs
  kind : (Nat × List UInt8 × Nat) × Rs
  exc : List (List UInt8) × Rs
  beg : Tree × Rs
  fin : Tree × Rs
  aga : Tree × Rs
  tail : (Nat × List UInt8) × Rs
  last : Rs
def partsA (ts : List Tok) (fin : Nat) : Parts :=
  let c := partA ts [119, 104, 101, 114, 101] (leafT 1) (treeA false ts fin) ⟨0, 0, 0⟩
  let k := kindA ts fin c.2
  let x := partA ts [111, 118, 101, 114, 114, 105, 100, 101, 115] [] (namesA ts fin) k.2
  let g := partA ts [115, 116, 97, 114, 116, 115] (leafT 1) (treeA true ts fin) x.2
  let h := partA ts [101, 110, 100, 115] (leafT 2) (treeA true ts fin) g.2
  let j := partA ts [114, 101, 116, 117, 114, 110, 115] (leafT 2) (treeA true ts fin) h.2
  let t := tailA ts fin j.2
  ⟨c, k, x, g, h, j, t, endA ts fin t.2⟩
def Parts.prov (x : Parts) : Prov := ⟨x.tail.1.2, x.tail.1.1, x.kind.1.1, x.kind.1.2.1, x.kind.1.2.2, x.cond.1, x.exc.1, x.beg.1, x.fin.1, x.aga.1⟩
end Go.Proofs.YtcekampdldkjlaaGreatDoor
