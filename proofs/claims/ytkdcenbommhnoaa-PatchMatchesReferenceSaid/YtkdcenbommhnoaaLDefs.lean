/- What patches do, in plain words: formed, Apply, Invert, All. -/
import Derived.Test.YtkdcenbommhnoaaFormed3
set_option linter.unusedVariables false
set_option linter.unusedSimpArgs false
namespace Go.Proofs.Ytkdcenbommhnoaa
def formedF (p : Patch) : Bool :=
  if p.kind = 1 then patEq p { bare p with par := p.par, aft := p.aft, item := p.item } && (p.item.id == p.id && (p.item.par == p.par && walkB [{ p.item with par := [] }]))
  else if p.kind = 2 then patEq p { bare p with lang := p.lang, fr := p.fr, to := p.to } && (!p.fr.isEmpty && (p.lang == 1 || p.lang == 2))
  else if p.kind = 3 then patEq p { bare p with num := p.num } && walkB [⟨1, [100], [], p.num, [], [], false⟩]
  else if p.kind = 4 then patEq p { bare p with par := p.par, aft := p.aft }
  else if p.kind = 5 ∨ p.kind = 6 then patEq p (bare p)
  else if p.kind = 7 then patEq p { bare p with item := { noItem with no := p.item.no, so := p.item.so } }
  else false
def applyF (l : List Item) (p : Patch) : List Item × Int :=
  if walkB l = false ∨ formedF p = false then ([], 1)
  else if p.kind = 1 then insertF l p (findI l p.id)
  else if (itemF l p.id).kind = 0 ∨ ((itemF l p.id).kind = 1 ∧ p.kind ≠ 3 ∧ p.kind ≠ 4) then ([], 11)
  else if p.kind = 6 ∧ (itemF l p.id).gone = false then ([], 12)
  else if p.kind ≠ 6 ∧ (itemF l p.id).gone = true then ([], 16)
  else if p.kind = 2 then wordsF l p (findI l p.id).toNat (itemF l p.id)
  else if p.kind = 3 then (l.set (findI l p.id).toNat { itemF l p.id with num := p.num }, 0)
  else if p.kind = 4 then moveF l p (findI l p.id).toNat
  else if p.kind = 7 then replaceF l p (findI l p.id).toNat (itemF l p.id)
  else (l.set (findI l p.id).toNat { itemF l p.id with gone := p.kind == 5 }, 0)
def zeroP : Patch := ⟨0, [], [], [], [], noItem, 0, [], []⟩
def lastSib (l : List Item) (par : Str) : Str := l.foldl (fun b y => if y.par == par then y.id else b) []
def backF (l d : List Item) (p : Patch) : Patch × Int :=
  if p.kind = 1 then (zeroP, 12)
  else if p.kind = 2 then
    (if onceIs (wordsText p (itemF d p.id)) p.to = false ∨ p.to = [] then (zeroP, 15) else ({ bare p with lang := p.lang, fr := p.to, to := p.fr }, 0))
  else if p.kind = 3 then ({ bare p with num := (itemF l p.id).num }, 0)
  else if p.kind = 4 then ({ bare p with par := (itemF l p.id).par, aft := lastSib (l.take (findI l p.id).toNat) (itemF l p.id).par }, 0)
  else if p.kind = 5 then ({ bare p with kind := 6 }, 0)
  else if p.kind = 6 then ({ bare p with kind := 5 }, 0)
  else if p.kind = 7 then ({ bare p with item := { noItem with no := (itemF l p.id).no, so := (itemF l p.id).so } }, 0)
  else (bare p, 0)
def invertF (l : List Item) (p : Patch) : Patch × Int := if (applyF l p).2 = 0 then backF l (applyF l p).1 p else (zeroP, (applyF l p).2)
def allF : List Item → List Patch → Nat → List Item × Int × Int
  | l, [], _ => (l, -1, 0)
  | l, p :: r, i => if (applyF l p).2 = 0 then allF (applyF l p).1 r (i + 1) else ([], i, (applyF l p).2)

end Go.Proofs.Ytkdcenbommhnoaa
