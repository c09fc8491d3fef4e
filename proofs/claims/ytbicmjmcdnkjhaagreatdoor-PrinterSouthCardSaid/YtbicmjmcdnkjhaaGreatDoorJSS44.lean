/- provision's model in stages; the box of the outcome -/
import Derived.Test.YtbicmjmcdnkjhaaGreatDoorJSS1
import Derived.Test.YtbicmjmcdnkjhaaGreatDoorJSS43
import Derived.Deep.CutRange
import Derived.Deep.DeepCutAuto
set_option linter.unusedVariables false
set_option linter.unusedSimpArgs false
namespace Go.Proofs.YtbicmjmcdnkjhaaGreatDoor
namespace So
open Go.RowKit Go.Maps
theorem OutR.elim {α : Type} {p fin : Nat} {ts : List Tok} {w w' : World} {res : R α} {V : α → Value → World → Prop} {e : Ending} {K : Ending → World → Prop} (h : OutR p fin ts w res V e w') (hk : ∀ x r v, res = .ok (x, r) → V x v w' → PS w' p fin ts r → Eff p w w' → K (.returned v) w') (he : ∀ c s, res = .error (c, s) → Eff p w w' → K (stopE c (posAt fin s)) w') : K e w' := by
 cases hq : res with
 | error x =>
   obtain ⟨c, s⟩ := x
   rw [hq] at h
   obtain ⟨rfl, h2⟩ := h
   exact he c s hq h2
 | ok x =>
   obtain ⟨t, r⟩ := x
   rw [hq] at h
   obtain ⟨v, rfl, h1, h2, h3⟩ := h
   exact hk t r v hq h1 h2 h3
theorem calls_out {α : Type} {f : FuncId} {args : Array Value} {p fin : Nat} {ts : List Tok} {w w0 : World} {res : R α} {V : α → Value → World → Prop} {K : Ending → World → Prop} (h : Calls Tryz.prog f args w (OutR p fin ts w0 res V)) (hk : ∀ x r v w', res = .ok (x, r) → V x v w' → PS w' p fin ts r → Eff p w0 w' → K (.returned v) w') (he : ∀ c s w', res = .error (c, s) → Eff p w0 w' → K (stopE c (posAt fin s)) w') : Calls Tryz.prog f args w K :=
 h.mono fun e w' ho => ho.elim (fun x r v => hk x r v w') (fun c s => he c s w')
theorem RdProv.weak {base base' : Nat} {W W' : World} {cs : List Value} {P : Prov} (h : RdProv base W cs P) (hb : base' ≤ base) (hs : W.heap.size ≤ W'.heap.size) (hk : ∀ k, base ≤ k → k < W.heap.size → W'.heap[k]? = W.heap[k]?) : RdProv base' W' cs P := by
 obtain ⟨cc, A, cap, cb, cf, ca, h0, h1, h2, h3, h4, h5, h6⟩ := h
 have h3' := Stab.exc _ _ hs hk h3
 exact ⟨cc, A, cap, cb, cf, ca, h0, h1, h2.keep hs (fun k a b => ⟨by omega, hk k a b⟩), ⟨h3'.1, fun b o hA => ⟨by have := (h3'.2 b o hA).1; omega, (h3'.2 b o hA).2⟩⟩, h4.keep hs (fun k a b => ⟨by omega, hk k a b⟩), h5.keep hs (fun k a b => ⟨by omega, hk k a b⟩), h6.keep hs (fun k a b => ⟨by omega, hk k a b⟩)⟩
theorem Off.row {b : Nat} (w : World) (C : Array Value) : Off b w (w.setRow b C) := by
 refine ⟨rfl, rfl, rfl, by simp [World.setRow], fun k hk => ?_⟩
 have : ¬ b = k := fun e => hk e.symm
 simp [World.setRow, Array.getElem?_modify, this]
@[go_sem] theorem blk_setRow_at {W : World} {b : Nat} {C D : Array Value} {t : TypeId} {fr : Nat × Nat} (h : W.blk b = some (.cells C t fr)) : (W.setRow b D).blk b = some (.cells D t fr) := by
 unfold World.blk at *
 simp [World.setRow, Array.getElem?_modify, h]
theorem name_any (p fin : Nat) (ts l : List Tok) (w : World) (hp : PS w p fin ts l) : Calls Tryz.prog 90 #[.pointer (some ⟨p, 0, none⟩)] w (OutR p fin ts w (nameF l) (fun s v _ => ∃ t : Tok, t.text = s ∧ v = t.agg)) := by
 rcases name_cases l with ⟨t, r, rfl, h1, h2⟩ | ⟨h1, h2⟩
 · rw [h2]
   exact (name_ok p fin ts t r w hp h1).mono fun e w' ⟨a, b, c⟩ => ⟨_, a, ⟨t, rfl, rfl⟩, b, c⟩
 · rw [h2]
   exact (name_no p fin ts l w hp h1).mono fun e w' ⟨a, b⟩ => ⟨a, Eff.of_below b⟩
/- the stages -/
def P0 : Prov := ⟨[], 0, 1, [], 0, leafT 1, [], leafT 1, leafT 2, leafT 2⟩
def pvE (P : Prov) (r : List Tok) : R Prov := match r with | [] => .ok (P, []) | _ :: _ => failR r
def pv9 (P : Prov) (r : List Tok) : R Prov := bindR (mustF [93] r) fun _ r => pvE P r
def pv8 (P : Prov) (r : List Tok) : R Prov := bindR (nameF r) fun s r => pv9 { P with id := s } r
def pv7 (P : Prov) (r : List Tok) : R Prov := bindR (chooseF [[99, 104, 97, 114, 116, 101, 114], [115, 116, 97, 116, 117, 116, 101], [111, 114, 100, 101, 114], [114, 117, 108, 101]] r) fun k r => pv8 { P with rank := 1 + k } r
def pv6 (P : Prov) (r : List Tok) : R Prov := bindR (mustF [91] r) fun _ r => pv7 P r
def pv5 (P : Prov) (r : List Tok) : R Prov := isF [114, 101, 116, 117, 114, 110, 115] r (fun r => bindR (startF r) fun t r => pv6 { P with aga := t } r) fun r => pv6 P r
def pv4 (P : Prov) (r : List Tok) : R Prov := isF [101, 110, 100, 115] r (fun r => bindR (startF r) fun t r => pv5 { P with fin := t } r) fun r => pv5 P r
def pv3 (P : Prov) (r : List Tok) : R Prov := isF [115, 116, 97, 114, 116, 115] r (fun r => bindR (startF r) fun t r => pv4 { P with beg := t } r) fun r => pv4 P r
def pv2 (P : Prov) (r : List Tok) : R Prov := isF [111, 118, 101, 114, 114, 105, 100, 101, 115] r (fun r => bindR (excF r) fun e r => pv3 { P with exc := e } r) fun r => pv3 P r
def pvV (P : Prov) (r : List Tok) : R Prov := bindR (limitF 1000000 r) fun v r => pv2 { P with value := v } r
def pvG (P : Prov) (r : List Tok) : R Prov := bindR (mustF [103, 105, 118, 101, 115] r) fun _ r => pvV P r
def pvN (P : Prov) (r : List Tok) : R Prov := bindR (nameF r) fun s r => pvG { P with kind := 2, name := s } r
def pvQ (P : Prov) (r : List Tok) : R Prov := bindR (mustF [113, 117, 101, 115, 116, 105, 111, 110] r) fun _ r => pvN P r
def pvT (P : Prov) (r : List Tok) : R Prov := bindR (nameF r) fun s r => pv2 { P with name := s } r
def pv1 (P : Prov) (r : List Tok) : R Prov := isF [116, 101, 114, 109] r (fun r => pvT P r) fun r => pvQ P r
def pv0 (P : Prov) (r : List Tok) : R Prov := isF [119, 104, 101, 114, 101] r (fun r => bindR (formulaF r) fun t r => pv1 { P with cond := t } r) fun r => pv1 P r
theorem bindR_assoc {α β γ : Type} (x : R α) (f : α → List Tok → R β) (g : β → List Tok → R γ) : bindR (bindR x f) g = bindR x fun a r => bindR (f a r) g := by
 cases x with
 | error e => rfl
 | ok v => rfl
theorem bindR_isF {α β : Type} (w : List UInt8) (l : List Tok) (y n : List Tok → R α) (g : α → List Tok → R β) : bindR (isF w l y n) g = isF w l (fun r => bindR (y r) g) fun r => bindR (n r) g := by
 unfold isF
 split <;> rfl
theorem bindR_ok {α β : Type} (x : α) (r : List Tok) (g : α → List Tok → R β) : bindR (.ok (x, r)) g = g x r := rfl
theorem pr_stages (l : List Tok) : endF (provF l) = pv0 P0 l := by
 simp only [endF, provF, optR, bindR_assoc, bindR_isF, bindR_ok, kindF]
 rfl
/- what holds while provision runs -/
structure PW (w wX : World) (p fin : Nat) (ts l : List Tok) (P : Prov) : Prop where
 ps : PS wX p fin ts l
 eff : Eff p w wX
 out : ∃ C : List Value, wX.blk (w.heap.size + 1) = some (.cells C.toArray 30 (0, 0)) ∧ RdProv (w.heap.size + 2) wX C P
 res : wX.blk w.heap.size = some (.cells zero23.toArray 30 (0, 0))
 lt : p < w.heap.size
theorem RdProv.len {base : Nat} {W : World} {cs : List Value} {P : Prov} (h : RdProv base W cs P) : cs.length = 23 := by
 obtain ⟨cc, A, cap, cb, cf, ca, rfl, -, h2, -, h4, h5, h6⟩ := h
 simp [h2.len, h4.len, h5.len, h6.len, tsz]
theorem RdProv.keep {base : Nat} {W W' : World} {cs : List Value} {P : Prov} (h : RdProv base W cs P) (hs : W.heap.size ≤ W'.heap.size) (hk : ∀ k, base ≤ k → k < W.heap.size → W'.heap[k]? = W.heap[k]?) : RdProv base W' cs P := h.weak (lR _) hs hk
theorem PW.call {w wX w' : World} {p fin : Nat} {ts l r : List Tok} {P : Prov} (h : PW w wX p fin ts l P) (he : Eff p wX w') (hp : PS w' p fin ts r) : PW w w' p fin ts r P := by
 obtain ⟨C, h1, h2⟩ := h.out
 have hlt := h.lt
 exact ⟨hp, h.eff.trans he, ⟨C, (he.block _ (lHp h1) (by omega)).trans h1, h2.keep he.size (fun k a b => he.block k b (by omega))⟩, (he.block _ (lHp h.res) (by omega)).trans h.res, hlt⟩
theorem PW.below {w wX w' : World} {p fin : Nat} {ts l : List Tok} {P : Prov} (h : PW w wX p fin ts l P) (hb : Below wX.heap.size wX w') : PW w w' p fin ts l P := h.call (Eff.of_below hb) (h.ps.below hb)
theorem PW.room {w wX : World} {p fin : Nat} {ts l : List Tok} {P : Prov} (h : PW w wX p fin ts l P) : w.heap.size + 1 < wX.heap.size := by
 obtain ⟨C, h1, h2⟩ := h.out
 exact lHp h1
theorem PW.cells {w wX : World} {p fin : Nat} {ts l : List Tok} {P : Prov} (h : PW w wX p fin ts l P) (o : Nat) (ho : o < 23) : ∃ v, wX.cell? ⟨w.heap.size + 1, o, none⟩ = some v ∧ wX.frozen? ⟨w.heap.size + 1, o, none⟩ = false := by
 obtain ⟨C, h1, h2⟩ := h.out
 have hl := h2.len
 exact ⟨C[o]'(by omega), cOb (o := o) (show wX.heap[w.heap.size + 1]? = _ from h1) (by simp), fOb (o := o) (show wX.heap[w.heap.size + 1]? = _ from h1)⟩
/- stores into the box -/
def setL : Nat → List Value → List Value → List Value
 | _, [], C => C
 | o, v :: r, C => setL (o + 1) r (C.set o v)
def setW (b : Nat) : Nat → List Value → World → World
 | _, [], W => W
 | o, v :: r, W => setW b (o + 1) r (W.setCell ⟨b, o, none⟩ v)
theorem setW_off (b : Nat) : ∀ (o : Nat) (l : List Value) (W : World), Off b W (setW b o l W)
 | o, [], W => Off.refl b W
 | o, v :: r, W => by
   have h1 := (Off.refl b W).set (o := o) v
   have h2 := setW_off b (o + 1) r (W.setCell ⟨b, o, none⟩ v)
   exact ⟨h2.os.trans h1.os, h2.tape.trans h1.tape, h2.output.trans h1.output, h2.size.trans h1.size, fun k hk => (h2.block k hk).trans (h1.block k hk)⟩
theorem setW_at {b : Nat} {t : TypeId} : ∀ (o : Nat) (l C : List Value) (W : World), W.heap[b]? = some (.cells C.toArray t (0, 0)) → (setW b o l W).heap[b]? = some (.cells (setL o l C).toArray t (0, 0))
 | o, [], C, W, h => h
 | o, v :: r, C, W, h => by
   refine setW_at (o + 1) r (C.set o v) _ ?_
   rw [rSc (o := o) h]
   simp
theorem PW.store {w wX : World} {p fin : Nat} {ts l : List Tok} {P P' : Prov} (h : PW w wX p fin ts l P) (o : Nat) (vl : List Value) (hR : ∀ W C, RdProv (w.heap.size + 2) W C P → W.heap.size = wX.heap.size → (∀ k, w.heap.size + 2 ≤ k → W.heap[k]? = wX.heap[k]?) → RdProv (w.heap.size + 2) W (setL o vl C) P') :
 PW w (setW (w.heap.size + 1) o vl wX) p fin ts l P' := by
 obtain ⟨C, h1, h2⟩ := h.out
 have ho := setW_off (w.heap.size + 1) o vl wX
 have hlt := h.lt
 refine ⟨h.ps.off ho (by omega), h.eff.off ho (by omega), ⟨setL o vl C, setW_at o vl C wX h1, ?_⟩, (ho.block _ (by omega)).trans h.res, hlt⟩
 exact hR _ C (h2.keep (Nat.le_of_eq ho.size.symm) (fun k hk _ => ho.block k (by omega))) ho.size (fun k hk => ho.block k (by omega))
theorem PW.setId {w wX : World} {p fin : Nat} {ts l : List Tok} {P : Prov} (h : PW w wX p fin ts l P) (s : List UInt8) : PW w (setW (w.heap.size + 1) 0 [vs s] wX) p fin ts l { P with id := s } := by
 refine h.store 0 _ ?_
 intro W C hC hs hk
 obtain ⟨cc, A, cap, cb, cf, ca, rfl, h1, h2, h3, h4, h5, h6⟩ := hC
 have l2 := h2.len
 have l4 := h4.len
 have l5 := h5.len
 have l6 := h6.len
 simp only [tsz, if_true, if_false, Bool.false_eq_true] at l2 l4 l5 l6
 obtain ⟨x1, x2, x3, x4, x5, rfl⟩ : ∃ x1 x2 x3 x4 x5, cc = [x1, x2, x3, x4, x5] := by
  match cc, l2 with
  | [a, b, c, d, e], _ => exact ⟨_, _, _, _, _, rfl⟩
 obtain ⟨y1, y2, y3, y4, rfl⟩ : ∃ x1 x2 x3 x4, cb = [x1, x2, x3, x4] := by
  match cb, l4 with
  | [a, b, c, d], _ => exact ⟨_, _, _, _, rfl⟩
 obtain ⟨z1, z2, z3, z4, rfl⟩ : ∃ x1 x2 x3 x4, cf = [x1, x2, x3, x4] := by
  match cf, l5 with
  | [a, b, c, d], _ => exact ⟨_, _, _, _, rfl⟩
 obtain ⟨u1, u2, u3, u4, rfl⟩ : ∃ x1 x2 x3 x4, ca = [x1, x2, x3, x4] := by
  match ca, l6 with
  | [a, b, c, d], _ => exact ⟨_, _, _, _, rfl⟩
 exact ⟨_, A, cap, _, _, _, rfl, h1, h2, h3, h4, h5, h6⟩
theorem PW.setRank {w wX : World} {p fin : Nat} {ts l : List Tok} {P : Prov} (h : PW w wX p fin ts l P) (k : Nat) : PW w (setW (w.heap.size + 1) 1 [.int .i64 (k : Nat)] wX) p fin ts l { P with rank := k } := by
 refine h.store 1 _ ?_
 intro W C hC hs hk
 obtain ⟨cc, A, cap, cb, cf, ca, rfl, h1, h2, h3, h4, h5, h6⟩ := hC
 have l2 := h2.len
 have l4 := h4.len
 have l5 := h5.len
 have l6 := h6.len
 simp only [tsz, if_true, if_false, Bool.false_eq_true] at l2 l4 l5 l6
 obtain ⟨x1, x2, x3, x4, x5, rfl⟩ : ∃ x1 x2 x3 x4 x5, cc = [x1, x2, x3, x4, x5] := by
  match cc, l2 with
  | [a, b, c, d, e], _ => exact ⟨_, _, _, _, _, rfl⟩
 obtain ⟨y1, y2, y3, y4, rfl⟩ : ∃ x1 x2 x3 x4, cb = [x1, x2, x3, x4] := by
  match cb, l4 with
  | [a, b, c, d], _ => exact ⟨_, _, _, _, rfl⟩
 obtain ⟨z1, z2, z3, z4, rfl⟩ : ∃ x1 x2 x3 x4, cf = [x1, x2, x3, x4] := by
  match cf, l5 with
  | [a, b, c, d], _ => exact ⟨_, _, _, _, rfl⟩
 obtain ⟨u1, u2, u3, u4, rfl⟩ : ∃ x1 x2 x3 x4, ca = [x1, x2, x3, x4] := by
  match ca, l6 with
  | [a, b, c, d], _ => exact ⟨_, _, _, _, rfl⟩
 exact ⟨_, A, cap, _, _, _, rfl, h1, h2, h3, h4, h5, h6⟩
theorem PW.setKN {w wX : World} {p fin : Nat} {ts l : List Tok} {P : Prov} (h : PW w wX p fin ts l P) (k : Nat) (s : List UInt8) : PW w (setW (w.heap.size + 1) 2 [.int .i64 (k : Nat), vs s] wX) p fin ts l { P with kind := k, name := s } := by
 refine h.store 2 _ ?_
 intro W C hC hs hk
 obtain ⟨cc, A, cap, cb, cf, ca, rfl, h1, h2, h3, h4, h5, h6⟩ := hC
 have l2 := h2.len
 have l4 := h4.len
 have l5 := h5.len
 have l6 := h6.len
 simp only [tsz, if_true, if_false, Bool.false_eq_true] at l2 l4 l5 l6
 obtain ⟨x1, x2, x3, x4, x5, rfl⟩ : ∃ x1 x2 x3 x4 x5, cc = [x1, x2, x3, x4, x5] := by
  match cc, l2 with
  | [a, b, c, d, e], _ => exact ⟨_, _, _, _, _, rfl⟩
 obtain ⟨y1, y2, y3, y4, rfl⟩ : ∃ x1 x2 x3 x4, cb = [x1, x2, x3, x4] := by
  match cb, l4 with
  | [a, b, c, d], _ => exact ⟨_, _, _, _, rfl⟩
 obtain ⟨z1, z2, z3, z4, rfl⟩ : ∃ x1 x2 x3 x4, cf = [x1, x2, x3, x4] := by
  match cf, l5 with
  | [a, b, c, d], _ => exact ⟨_, _, _, _, rfl⟩
 obtain ⟨u1, u2, u3, u4, rfl⟩ : ∃ x1 x2 x3 x4, ca = [x1, x2, x3, x4] := by
  match ca, l6 with
  | [a, b, c, d], _ => exact ⟨_, _, _, _, rfl⟩
 exact ⟨_, A, cap, _, _, _, rfl, h1, h2, h3, h4, h5, h6⟩
theorem PW.setName {w wX : World} {p fin : Nat} {ts l : List Tok} {P : Prov} (h : PW w wX p fin ts l P) (s : List UInt8) : PW w (setW (w.heap.size + 1) 3 [vs s] wX) p fin ts l { P with name := s } := by
 refine h.store 3 _ ?_
 intro W C hC hs hk
 obtain ⟨cc, A, cap, cb, cf, ca, rfl, h1, h2, h3, h4, h5, h6⟩ := hC
 have l2 := h2.len
 have l4 := h4.len
 have l5 := h5.len
 have l6 := h6.len
 simp only [tsz, if_true, if_false, Bool.false_eq_true] at l2 l4 l5 l6
 obtain ⟨x1, x2, x3, x4, x5, rfl⟩ : ∃ x1 x2 x3 x4 x5, cc = [x1, x2, x3, x4, x5] := by
  match cc, l2 with
  | [a, b, c, d, e], _ => exact ⟨_, _, _, _, _, rfl⟩
 obtain ⟨y1, y2, y3, y4, rfl⟩ : ∃ x1 x2 x3 x4, cb = [x1, x2, x3, x4] := by
  match cb, l4 with
  | [a, b, c, d], _ => exact ⟨_, _, _, _, rfl⟩
 obtain ⟨z1, z2, z3, z4, rfl⟩ : ∃ x1 x2 x3 x4, cf = [x1, x2, x3, x4] := by
  match cf, l5 with
  | [a, b, c, d], _ => exact ⟨_, _, _, _, rfl⟩
 obtain ⟨u1, u2, u3, u4, rfl⟩ : ∃ x1 x2 x3 x4, ca = [x1, x2, x3, x4] := by
  match ca, l6 with
  | [a, b, c, d], _ => exact ⟨_, _, _, _, rfl⟩
 exact ⟨_, A, cap, _, _, _, rfl, h1, h2, h3, h4, h5, h6⟩
theorem PW.setValue {w wX : World} {p fin : Nat} {ts l : List Tok} {P : Prov} (h : PW w wX p fin ts l P) (k : Nat) : PW w (setW (w.heap.size + 1) 4 [.int .i64 (k : Nat)] wX) p fin ts l { P with value := k } := by
 refine h.store 4 _ ?_
 intro W C hC hs hk
 obtain ⟨cc, A, cap, cb, cf, ca, rfl, h1, h2, h3, h4, h5, h6⟩ := hC
 have l2 := h2.len
 have l4 := h4.len
 have l5 := h5.len
 have l6 := h6.len
 simp only [tsz, if_true, if_false, Bool.false_eq_true] at l2 l4 l5 l6
 obtain ⟨x1, x2, x3, x4, x5, rfl⟩ : ∃ x1 x2 x3 x4 x5, cc = [x1, x2, x3, x4, x5] := by
  match cc, l2 with
  | [a, b, c, d, e], _ => exact ⟨_, _, _, _, _, rfl⟩
 obtain ⟨y1, y2, y3, y4, rfl⟩ : ∃ x1 x2 x3 x4, cb = [x1, x2, x3, x4] := by
  match cb, l4 with
  | [a, b, c, d], _ => exact ⟨_, _, _, _, rfl⟩
 obtain ⟨z1, z2, z3, z4, rfl⟩ : ∃ x1 x2 x3 x4, cf = [x1, x2, x3, x4] := by
  match cf, l5 with
  | [a, b, c, d], _ => exact ⟨_, _, _, _, rfl⟩
 obtain ⟨u1, u2, u3, u4, rfl⟩ : ∃ x1 x2 x3 x4, ca = [x1, x2, x3, x4] := by
  match ca, l6 with
  | [a, b, c, d], _ => exact ⟨_, _, _, _, rfl⟩
 exact ⟨_, A, cap, _, _, _, rfl, h1, h2, h3, h4, h5, h6⟩
theorem PW.setCond {w wX : World} {p fin : Nat} {ts l : List Tok} {P : Prov} (h : PW w wX p fin ts l P) (o : Nat) (nm : List UInt8) (cm m : Nat) (ks : List Tree) (K : Option Addr) (q : Nat) (ht : RdTree true (fun k => w.heap.size + 2 ≤ k) wX (tcs true o nm cm m (.slice K ks.length q)) (.mk o nm cm m ks)) : PW w (setW (w.heap.size + 1) 5 (tcs true o nm cm m (.slice K ks.length q)) wX) p fin ts l { P with cond := .mk o nm cm m ks } := by
 refine h.store 5 _ ?_
 intro W C hC hs hk
 obtain ⟨cc, A, cap, cb, cf, ca, rfl, h1, h2, h3, h4, h5, h6⟩ := hC
 have l2 := h2.len
 have l4 := h4.len
 have l5 := h5.len
 have l6 := h6.len
 simp only [tsz, if_true, if_false, Bool.false_eq_true] at l2 l4 l5 l6
 obtain ⟨x1, x2, x3, x4, x5, rfl⟩ : ∃ x1 x2 x3 x4 x5, cc = [x1, x2, x3, x4, x5] := by
  match cc, l2 with
  | [a, b, c, d, e], _ => exact ⟨_, _, _, _, _, rfl⟩
 obtain ⟨y1, y2, y3, y4, rfl⟩ : ∃ x1 x2 x3 x4, cb = [x1, x2, x3, x4] := by
  match cb, l4 with
  | [a, b, c, d], _ => exact ⟨_, _, _, _, rfl⟩
 obtain ⟨z1, z2, z3, z4, rfl⟩ : ∃ x1 x2 x3 x4, cf = [x1, x2, x3, x4] := by
  match cf, l5 with
  | [a, b, c, d], _ => exact ⟨_, _, _, _, rfl⟩
 obtain ⟨u1, u2, u3, u4, rfl⟩ : ∃ x1 x2 x3 x4, ca = [x1, x2, x3, x4] := by
  match ca, l6 with
  | [a, b, c, d], _ => exact ⟨_, _, _, _, rfl⟩
 exact ⟨_, A, cap, _, _, _, rfl, h1, (ht.keep (by rw [hs]; exact lR _) (fun k a b => ⟨a, hk k a⟩)), h3, h4, h5, h6⟩
theorem PW.setExc {w wX : World} {p fin : Nat} {ts l : List Tok} {P : Prov} (h : PW w wX p fin ts l P) (e : List (List UInt8)) (B : Option Addr) (q : Nat) (hq : e.length ≤ q) (ht : RdEx (w.heap.size + 2) B e wX) : PW w (setW (w.heap.size + 1) 10 [.slice B e.length q] wX) p fin ts l { P with exc := e } := by
 refine h.store 10 _ ?_
 intro W C hC hs hk
 obtain ⟨cc, A, cap, cb, cf, ca, rfl, h1, h2, h3, h4, h5, h6⟩ := hC
 have l2 := h2.len
 have l4 := h4.len
 have l5 := h5.len
 have l6 := h6.len
 simp only [tsz, if_true, if_false, Bool.false_eq_true] at l2 l4 l5 l6
 obtain ⟨x1, x2, x3, x4, x5, rfl⟩ : ∃ x1 x2 x3 x4 x5, cc = [x1, x2, x3, x4, x5] := by
  match cc, l2 with
  | [a, b, c, d, e], _ => exact ⟨_, _, _, _, _, rfl⟩
 obtain ⟨y1, y2, y3, y4, rfl⟩ : ∃ x1 x2 x3 x4, cb = [x1, x2, x3, x4] := by
  match cb, l4 with
  | [a, b, c, d], _ => exact ⟨_, _, _, _, rfl⟩
 obtain ⟨z1, z2, z3, z4, rfl⟩ : ∃ x1 x2 x3 x4, cf = [x1, x2, x3, x4] := by
  match cf, l5 with
  | [a, b, c, d], _ => exact ⟨_, _, _, _, rfl⟩
 obtain ⟨u1, u2, u3, u4, rfl⟩ : ∃ x1 x2 x3 x4, ca = [x1, x2, x3, x4] := by
  match ca, l6 with
  | [a, b, c, d], _ => exact ⟨_, _, _, _, rfl⟩
 exact ⟨_, B, q, _, _, _, rfl, hq, h2, Stab.exc _ _ (by rw [hs]; exact lR _) (fun k a b => hk k a) ht, h4, h5, h6⟩
theorem PW.setBeg {w wX : World} {p fin : Nat} {ts l : List Tok} {P : Prov} (h : PW w wX p fin ts l P) (o : Nat) (nm : List UInt8) (cm m : Nat) (ks : List Tree) (K : Option Addr) (q : Nat) (ht : RdTree false (fun k => w.heap.size + 2 ≤ k) wX (tcs false o nm cm m (.slice K ks.length q)) (.mk o nm cm m ks)) : PW w (setW (w.heap.size + 1) 11 (tcs false o nm cm m (.slice K ks.length q)) wX) p fin ts l { P with beg := .mk o nm cm m ks } := by
 refine h.store 11 _ ?_
 intro W C hC hs hk
 obtain ⟨cc, A, cap, cb, cf, ca, rfl, h1, h2, h3, h4, h5, h6⟩ := hC
 have l2 := h2.len
 have l4 := h4.len
 have l5 := h5.len
 have l6 := h6.len
 simp only [tsz, if_true, if_false, Bool.false_eq_true] at l2 l4 l5 l6
 obtain ⟨x1, x2, x3, x4, x5, rfl⟩ : ∃ x1 x2 x3 x4 x5, cc = [x1, x2, x3, x4, x5] := by
  match cc, l2 with
  | [a, b, c, d, e], _ => exact ⟨_, _, _, _, _, rfl⟩
 obtain ⟨y1, y2, y3, y4, rfl⟩ : ∃ x1 x2 x3 x4, cb = [x1, x2, x3, x4] := by
  match cb, l4 with
  | [a, b, c, d], _ => exact ⟨_, _, _, _, rfl⟩
 obtain ⟨z1, z2, z3, z4, rfl⟩ : ∃ x1 x2 x3 x4, cf = [x1, x2, x3, x4] := by
  match cf, l5 with
  | [a, b, c, d], _ => exact ⟨_, _, _, _, rfl⟩
 obtain ⟨u1, u2, u3, u4, rfl⟩ : ∃ x1 x2 x3 x4, ca = [x1, x2, x3, x4] := by
  match ca, l6 with
  | [a, b, c, d], _ => exact ⟨_, _, _, _, rfl⟩
 exact ⟨_, A, cap, _, _, _, rfl, h1, h2, h3, (ht.keep (by rw [hs]; exact lR _) (fun k a b => ⟨a, hk k a⟩)), h5, h6⟩
theorem PW.setFin {w wX : World} {p fin : Nat} {ts l : List Tok} {P : Prov} (h : PW w wX p fin ts l P) (o : Nat) (nm : List UInt8) (cm m : Nat) (ks : List Tree) (K : Option Addr) (q : Nat) (ht : RdTree false (fun k => w.heap.size + 2 ≤ k) wX (tcs false o nm cm m (.slice K ks.length q)) (.mk o nm cm m ks)) : PW w (setW (w.heap.size + 1) 15 (tcs false o nm cm m (.slice K ks.length q)) wX) p fin ts l { P with fin := .mk o nm cm m ks } := by
 refine h.store 15 _ ?_
 intro W C hC hs hk
 obtain ⟨cc, A, cap, cb, cf, ca, rfl, h1, h2, h3, h4, h5, h6⟩ := hC
 have l2 := h2.len
 have l4 := h4.len
 have l5 := h5.len
 have l6 := h6.len
 simp only [tsz, if_true, if_false, Bool.false_eq_true] at l2 l4 l5 l6
 obtain ⟨x1, x2, x3, x4, x5, rfl⟩ : ∃ x1 x2 x3 x4 x5, cc = [x1, x2, x3, x4, x5] := by
  match cc, l2 with
  | [a, b, c, d, e], _ => exact ⟨_, _, _, _, _, rfl⟩
 obtain ⟨y1, y2, y3, y4, rfl⟩ : ∃ x1 x2 x3 x4, cb = [x1, x2, x3, x4] := by
  match cb, l4 with
  | [a, b, c, d], _ => exact ⟨_, _, _, _, rfl⟩
 obtain ⟨z1, z2, z3, z4, rfl⟩ : ∃ x1 x2 x3 x4, cf = [x1, x2, x3, x4] := by
  match cf, l5 with
  | [a, b, c, d], _ => exact ⟨_, _, _, _, rfl⟩
 obtain ⟨u1, u2, u3, u4, rfl⟩ : ∃ x1 x2 x3 x4, ca = [x1, x2, x3, x4] := by
  match ca, l6 with
  | [a, b, c, d], _ => exact ⟨_, _, _, _, rfl⟩
 exact ⟨_, A, cap, _, _, _, rfl, h1, h2, h3, h4, (ht.keep (by rw [hs]; exact lR _) (fun k a b => ⟨a, hk k a⟩)), h6⟩
theorem PW.setAga {w wX : World} {p fin : Nat} {ts l : List Tok} {P : Prov} (h : PW w wX p fin ts l P) (o : Nat) (nm : List UInt8) (cm m : Nat) (ks : List Tree) (K : Option Addr) (q : Nat) (ht : RdTree false (fun k => w.heap.size + 2 ≤ k) wX (tcs false o nm cm m (.slice K ks.length q)) (.mk o nm cm m ks)) : PW w (setW (w.heap.size + 1) 19 (tcs false o nm cm m (.slice K ks.length q)) wX) p fin ts l { P with aga := .mk o nm cm m ks } := by
 refine h.store 19 _ ?_
 intro W C hC hs hk
 obtain ⟨cc, A, cap, cb, cf, ca, rfl, h1, h2, h3, h4, h5, h6⟩ := hC
 have l2 := h2.len
 have l4 := h4.len
 have l5 := h5.len
 have l6 := h6.len
 simp only [tsz, if_true, if_false, Bool.false_eq_true] at l2 l4 l5 l6
 obtain ⟨x1, x2, x3, x4, x5, rfl⟩ : ∃ x1 x2 x3 x4 x5, cc = [x1, x2, x3, x4, x5] := by
  match cc, l2 with
  | [a, b, c, d, e], _ => exact ⟨_, _, _, _, _, rfl⟩
 obtain ⟨y1, y2, y3, y4, rfl⟩ : ∃ x1 x2 x3 x4, cb = [x1, x2, x3, x4] := by
  match cb, l4 with
  | [a, b, c, d], _ => exact ⟨_, _, _, _, rfl⟩
 obtain ⟨z1, z2, z3, z4, rfl⟩ : ∃ x1 x2 x3 x4, cf = [x1, x2, x3, x4] := by
  match cf, l5 with
  | [a, b, c, d], _ => exact ⟨_, _, _, _, rfl⟩
 obtain ⟨u1, u2, u3, u4, rfl⟩ : ∃ x1 x2 x3 x4, ca = [x1, x2, x3, x4] := by
  match ca, l6 with
  | [a, b, c, d], _ => exact ⟨_, _, _, _, rfl⟩
 exact ⟨_, A, cap, _, _, _, rfl, h1, h2, h3, h4, h5, (ht.keep (by rw [hs]; exact lR _) (fun k a b => ⟨a, hk k a⟩))⟩
theorem PW.start {p fin : Nat} {ts l : List Tok} {w : World} (hp : PS w p fin ts l) : PW w ((w.alloc (.cells zero23.toArray 30 (0, 0))).alloc (.cells [.string ⟨#[]⟩, .int .i64 0, .int .i64 1, .string ⟨#[]⟩, .int .i64 0, .int .i64 1, .string ⟨#[]⟩, .int .i64 0, .int .i64 0, .slice none 0 0, .slice none 0 0, .int .i64 1, .string ⟨#[]⟩, .int .i64 0, .slice none 0 0, .int .i64 2, .string ⟨#[]⟩, .int .i64 0, .slice none 0 0, .int .i64 2, .string ⟨#[]⟩, .int .i64 0, .slice none 0 0].toArray 30 (0, 0))) p fin ts l P0 :=
 ⟨fits_alloc (fits_alloc hp _) _, (eff_alloc p w _).trans (eff_alloc p _ _), ⟨_, alloc_at (by simp), tcs true 1 [] 0 0 (.slice none 0 0), none, 0, tcs false 1 [] 0 0 (.slice none 0 0), tcs false 2 [] 0 0 (.slice none 0 0), tcs false 2 [] 0 0 (.slice none 0 0), rfl, lR _, RdTree.leaf 1 [] 0 0 none 0, ⟨Sl.nil, fun b o e => by cases e⟩, RdTree.leaf 1 [] 0 0 none 0, RdTree.leaf 2 [] 0 0 none 0, RdTree.leaf 2 [] 0 0 none 0⟩, old_at (alloc_at rfl), hp.lt⟩
theorem prov_fin {w wX : World} {p fin : Nat} {ts : List Tok} {res : R Prov} {P : Prov} {C : List Value} {r : List Tok} (h : PW w wX p fin ts r P) (hc : RdProv (w.heap.size + 2) wX C P) (hr : res = .ok (P, r)) :
 OutR p fin ts w res (ProvV w) (.returned (.agg C.toArray)) (wX.setRow w.heap.size C.toArray) := by
 rw [hr]
 have ho : Off w.heap.size wX (wX.setRow w.heap.size C.toArray) := Off.row _ _
 have hlt := h.lt
 exact ⟨_, rfl, ⟨_, rfl, hc.weak (by omega) (Nat.le_of_eq ho.size.symm) (fun k hk _ => ho.block k (by omega))⟩, h.ps.off ho hlt, h.eff.off ho (lR _)⟩
end So
end Go.Proofs.YtbicmjmcdnkjhaaGreatDoor
