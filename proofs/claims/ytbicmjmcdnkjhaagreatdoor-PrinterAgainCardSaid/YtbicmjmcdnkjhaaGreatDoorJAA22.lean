/- provision's model in stages; the box of the outcome provision, walked. -/
import Derived.Test.YtbicmjmcdnkjhaaGreatDoorJAA21
import Derived.Deep.DeepCutAuto
import Derived.Test.YtbicmjmcdnkjhaaGreatDoorJAA12
import Derived.Test.YtbicmjmcdnkjhaaGreatDoorJAA13
import Derived.Laws.CopyOwn
set_option linter.unusedVariables false
set_option linter.unusedSimpArgs false
namespace Go.Proofs.YtbicmjmcdnkjhaaGreatDoor
section
namespace So
open Go.RowKit Go.Maps
theorem Wp.elim {α : Type} {p fin : Nat} {ts : List Tok} {w w' : World} {res : R α} {V : α -> Value -> World -> Prop} {e : Ending} {K : Ending -> World -> Prop} (h : Wp p fin ts w res V e w') (hk : ∀ x r v, res = .ok (x, r) -> V x v w' -> PS w' p fin ts r -> Eff p w w' -> K (.returned v) w') (he : ∀ c s, res = .error (c, s) -> Eff p w w' -> K (Xg c (Xd fin s)) w') : K e w' := by
 cases hq : res with
 | error x =>
   obtain ⟨c, s⟩ := x; rw [hq] at h; obtain ⟨rfl, h2⟩ := h; exact he c s hq h2
 | ok x =>
   obtain ⟨t, r⟩ := x; rw [hq] at h; obtain ⟨v, rfl, h1, h2, h3⟩ := h; exact hk t r v hq h1 h2 h3
theorem Qq {α : Type} {f : FuncId} {args : Array Value} {p fin : Nat} {ts : List Tok} {w w0 : World} {res : R α} {V : α -> Value -> World -> Prop} {K : Ending -> World -> Prop} (h : Calls Tryz.prog f args w (Wp p fin ts w0 res V)) (hk : ∀ x r v w', res = .ok (x, r) -> V x v w' -> PS w' p fin ts r -> Eff p w0 w' -> K (.returned v) w') (he : ∀ c s w', res = .error (c, s) -> Eff p w0 w' -> K (Xg c (Xd fin s)) w') : Calls Tryz.prog f args w K :=
 h.mono fun e w' ho => ho.elim (fun x r v => hk x r v w') (fun c s => he c s w')
theorem Jy.weak {base base' : Nat} {W W' : World} {cs : List Value} {P : Qf} (h : Jy base W cs P) (hb : base' <= base) (hs : W.heap.size <= W'.heap.size) (hk : ∀ k, base <= k -> k < W.heap.size -> W'.heap[k]? = W.heap[k]?) : Jy base' W' cs P := by
 obtain ⟨cc, A, cap, cb, cf, ca, h0, h1, h2, h3, h4, h5, h6⟩ := h; have bH := Kd.excS _ _ hs hk h3; exact ⟨cc, A, cap, cb, cf, ca, h0, h1, h2.keep hs (fun k a b => ⟨by omega, hk k a b⟩), ⟨bH.1, fun b o hA => ⟨by have := (bH.2 b o hA).1; omega, (bH.2 b o hA).2⟩⟩, h4.keep hs (fun k a b => ⟨by omega, hk k a b⟩), h5.keep hs (fun k a b => ⟨by omega, hk k a b⟩), h6.keep hs (fun k a b => ⟨by omega, hk k a b⟩)⟩
theorem Km (p fin : Nat) (ts l : List Tok) (w : World) (hp : PS w p fin ts l) : Calls Tryz.prog 90 #[.pointer (some ⟨p, 0, none⟩)] w (Wp p fin ts w (Jb l) (fun s v _ => ∃ t : Tok, t.text = s /\ v = t.agg)) := by
 rcases Yd l with ⟨t, r, rfl, h1, h2⟩ | ⟨h1, h2⟩
 · rw [h2]; exact (U1 p fin ts t r w hp h1).mono fun e w' ⟨a, b, c⟩ => ⟨_, a, ⟨t, rfl, rfl⟩, b, c⟩
 · rw [h2]; exact (Rc p fin ts l w hp h1).mono fun e w' ⟨a, b⟩ => ⟨a, Eff.of_below b⟩
def P0 : Qf := ⟨[], 0, 1, [], 0, Vq 1, [], Vq 1, Vq 2, Vq 2⟩
def pvE (P : Qf) (r : List Tok) : R Qf := match r with | [] => .ok (P, []) | _ :: _ => failR r
def pv9 (P : Qf) (r : List Tok) : R Qf := Qc (Q3 [93] r) fun _ r => pvE P r
def pv8 (P : Qf) (r : List Tok) : R Qf := Qc (Jb r) fun s r => pv9 { P with id := s } r
def pv7 (P : Qf) (r : List Tok) : R Qf := Qc (Zl [[99, 104, 97, 114, 116, 101, 114], [115, 116, 97, 116, 117, 116, 101], [111, 114, 100, 101, 114], [114, 117, 108, 101]] r) fun k r => pv8 { P with rank := 1 + k } r
def pv6 (P : Qf) (r : List Tok) : R Qf := Qc (Q3 [91] r) fun _ r => pv7 P r
def pv5 (P : Qf) (r : List Tok) : R Qf := isF [114, 101, 116, 117, 114, 110, 115] r (fun r => Qc (Jk r) fun t r => pv6 { P with aga := t } r) fun r => pv6 P r
def pv4 (P : Qf) (r : List Tok) : R Qf := isF [101, 110, 100, 115] r (fun r => Qc (Jk r) fun t r => pv5 { P with fin := t } r) fun r => pv5 P r
def pv3 (P : Qf) (r : List Tok) : R Qf := isF [115, 116, 97, 114, 116, 115] r (fun r => Qc (Jk r) fun t r => pv4 { P with beg := t } r) fun r => pv4 P r
def pv2 (P : Qf) (r : List Tok) : R Qf := isF [111, 118, 101, 114, 114, 105, 100, 101, 115] r (fun r => Qc (Kx r) fun e r => pv3 { P with exc := e } r) fun r => pv3 P r
def pvV (P : Qf) (r : List Tok) : R Qf := Qc (Xf 1000000 r) fun v r => pv2 { P with value := v } r
def pvG (P : Qf) (r : List Tok) : R Qf := Qc (Q3 [103, 105, 118, 101, 115] r) fun _ r => pvV P r
def pvN (P : Qf) (r : List Tok) : R Qf := Qc (Jb r) fun s r => pvG { P with kind := 2, name := s } r
def pvQ (P : Qf) (r : List Tok) : R Qf := Qc (Q3 [113, 117, 101, 115, 116, 105, 111, 110] r) fun _ r => pvN P r
def pvT (P : Qf) (r : List Tok) : R Qf := Qc (Jb r) fun s r => pv2 { P with name := s } r
def pv1 (P : Qf) (r : List Tok) : R Qf := isF [116, 101, 114, 109] r (fun r => pvT P r) fun r => pvQ P r
def pv0 (P : Qf) (r : List Tok) : R Qf := isF [119, 104, 101, 114, 101] r (fun r => Qc (Zc r) fun t r => pv1 { P with cond := t } r) fun r => pv1 P r
theorem Sc {α β γ : Type} (x : R α) (f : α -> List Tok -> R β) (g : β -> List Tok -> R γ) : Qc (Qc x f) g = Qc x fun a r => Qc (f a r) g := by
 cases x with
 | error e => rfl
 | ok v => rfl
theorem qd8 {α β : Type} (w : List UInt8) (l : List Tok) (y n : List Tok -> R α) (g : α -> List Tok -> R β) : Qc (isF w l y n) g = isF w l (fun r => Qc (y r) g) fun r => Qc (n r) g := by
 unfold isF
 split <;> rfl
theorem Z7 {α β : Type} (x : α) (r : List Tok) (g : α -> List Tok -> R β) : Qc (.ok (x, r)) g = g x r := rfl
theorem qc0 (l : List Tok) : Q4 (Qk l) = pv0 P0 l := by
 simp only [Q4, Qk, H8, Sc, qd8, Z7, K3]; rfl
structure PW (w wX : World) (p fin : Nat) (ts l : List Tok) (P : Qf) : Prop where
 ps : PS wX p fin ts l
 eff : Eff p w wX
 out : ∃ C : List Value, wX.blk (w.heap.size + 1) = some (.cells C.toArray 30 (0, 0)) /\ Jy (w.heap.size + 2) wX C P
 res : wX.blk w.heap.size = some (.cells Bw.toArray 30 (0, 0))
 lt : p < w.heap.size
theorem Jy.len {base : Nat} {W : World} {cs : List Value} {P : Qf} (h : Jy base W cs P) : cs.length = 23 := by
 obtain ⟨cc, A, cap, cb, cf, ca, rfl, -, h2, -, h4, h5, h6⟩ := h; simp [h2.len, h4.len, h5.len, h6.len, tsz]
theorem Jy.keep {base : Nat} {W W' : World} {cs : List Value} {P : Qf} (h : Jy base W cs P) (hs : W.heap.size <= W'.heap.size) (hk : ∀ k, base <= k -> k < W.heap.size -> W'.heap[k]? = W.heap[k]?) : Jy base W' cs P := h.weak (lR _) hs hk
theorem PW.call {w wX w' : World} {p fin : Nat} {ts l r : List Tok} {P : Qf} (h : PW w wX p fin ts l P) (he : Eff p wX w') (hp : PS w' p fin ts r) : PW w w' p fin ts r P := by
 obtain ⟨C, h1, h2⟩ := h.out; have aS := h.lt; exact ⟨hp, h.eff.trans he, ⟨C, (he.block _ (lHp h1) (by omega)).trans h1, h2.keep he.size (fun k a b => he.block k b (by omega))⟩, (he.block _ (lHp h.res) (by omega)).trans h.res, aS⟩
theorem PW.below {w wX w' : World} {p fin : Nat} {ts l : List Tok} {P : Qf} (h : PW w wX p fin ts l P) (hb : Below wX.heap.size wX w') : PW w w' p fin ts l P := h.call (Eff.of_below hb) (h.ps.below hb)
theorem PW.room {w wX : World} {p fin : Nat} {ts l : List Tok} {P : Qf} (h : PW w wX p fin ts l P) : w.heap.size + 1 < wX.heap.size := by
 obtain ⟨C, h1, h2⟩ := h.out; exact lHp h1
theorem PW.cells {w wX : World} {p fin : Nat} {ts l : List Tok} {P : Qf} (h : PW w wX p fin ts l P) (o : Nat) (ho : o < 23) : ∃ v, wX.cell? ⟨w.heap.size + 1, o, none⟩ = some v /\ wX.frozen? ⟨w.heap.size + 1, o, none⟩ = false := by
 obtain ⟨C, h1, h2⟩ := h.out; have hl := h2.len; exact ⟨C[o]'(by omega), cOb (o := o) (show wX.heap[w.heap.size + 1]? = _ from h1) (by simp), fOb (o := o) (show wX.heap[w.heap.size + 1]? = _ from h1)⟩
def setL : Nat -> List Value -> List Value -> List Value
 | _, [], C => C
 | o, v :: r, C => setL (o + 1) r (C.set o v)
def Hu (b : Nat) : Nat -> List Value -> World -> World
 | _, [], W => W
 | o, v :: r, W => Hu b (o + 1) r (W.setCell ⟨b, o, none⟩ v)
theorem Dx (b : Nat) : ∀ (o : Nat) (l : List Value) (W : World), Off b W (Hu b o l W)
 | o, [], W => Off.refl b W
 | o, v :: r, W => by
   have h1 := (Off.refl b W).set (o := o) v; have h2 := Dx b (o + 1) r (W.setCell ⟨b, o, none⟩ v); exact ⟨h2.os.trans h1.os, h2.tape.trans h1.tape, h2.output.trans h1.output, h2.size.trans h1.size, fun k hk => (h2.block k hk).trans (h1.block k hk)⟩
theorem qa5 {b : Nat} {t : TypeId} : ∀ (o : Nat) (l C : List Value) (W : World), W.heap[b]? = some (.cells C.toArray t (0, 0)) -> (Hu b o l W).heap[b]? = some (.cells (setL o l C).toArray t (0, 0))
 | o, [], C, W, h => h
 | o, v :: r, C, W, h => by
   refine qa5 (o + 1) r (C.set o v) _ ?_; rw [rSc (o := o) h]; simp
theorem PW.store {w wX : World} {p fin : Nat} {ts l : List Tok} {P P' : Qf} (h : PW w wX p fin ts l P) (o : Nat) (vl : List Value) (hR : ∀ W C, Jy (w.heap.size + 2) W C P -> W.heap.size = wX.heap.size -> (∀ k, w.heap.size + 2 <= k -> W.heap[k]? = wX.heap[k]?) -> Jy (w.heap.size + 2) W (setL o vl C) P') :
 PW w (Hu (w.heap.size + 1) o vl wX) p fin ts l P' := by
 obtain ⟨C, h1, h2⟩ := h.out; have ho := Dx (w.heap.size + 1) o vl wX; have aS := h.lt; refine ⟨h.ps.off ho (by omega), h.eff.off ho (by omega), ⟨setL o vl C, qa5 o vl C wX h1, ?_⟩, (ho.block _ (by omega)).trans h.res, aS⟩; exact hR _ C (h2.keep (Nat.le_of_eq ho.size.symm) (fun k hk _ => ho.block k (by omega))) ho.size (fun k hk => ho.block k (by omega))
theorem PW.setId {w wX : World} {p fin : Nat} {ts l : List Tok} {P : Qf} (h : PW w wX p fin ts l P) (s : List UInt8) : PW w (Hu (w.heap.size + 1) 0 [vs s] wX) p fin ts l { P with id := s } := by
 refine h.store 0 _ ?_; intro W C hC hs hk; obtain ⟨cc, A, cap, cb, cf, ca, rfl, h1, h2, h3, h4, h5, h6⟩ := hC; have l2 := h2.len; have l4 := h4.len; have l5 := h5.len; have l6 := h6.len; simp only [tsz, if_true, if_false, Bool.false_eq_true] at l2 l4 l5 l6
 obtain ⟨x1, x2, x3, x4, x5, rfl⟩ : ∃ x1 x2 x3 x4 x5, cc = [x1, x2, x3, x4, x5] := by
  match cc, l2 with
  | [a, b, c, d, e], _ => exact ⟨_, _, _, _, _, rfl⟩
 obtain ⟨y1, y2, y3, y4, rfl⟩ : ∃ x1 x2 x3 x4, cb = [x1, x2, x3, x4] := by
  match cb, l4 with
  | [a, b, c, d], _ => exact ⟨_, _, _, _, rfl⟩
 obtain ⟨z1, z2, z3, z4, rfl⟩ : ∃ x1 x2 x3 x4, cf = [x1, x2, x3, x4] := by
  match cf, l5 with
  | [a, b, c, d], _ => exact ⟨_, _, _, _, rfl⟩
 obtain ⟨u1, u2, u3, u4, rfl⟩ : ∃ x1 x2 x3 x4, ca = [x1, x2, x3, x4] := by
  match ca, l6 with
  | [a, b, c, d], _ => exact ⟨_, _, _, _, rfl⟩
 exact ⟨_, A, cap, _, _, _, rfl, h1, h2, h3, h4, h5, h6⟩
theorem PW.setRank {w wX : World} {p fin : Nat} {ts l : List Tok} {P : Qf} (h : PW w wX p fin ts l P) (k : Nat) : PW w (Hu (w.heap.size + 1) 1 [.int .i64 (k : Nat)] wX) p fin ts l { P with rank := k } := by
 refine h.store 1 _ ?_; intro W C hC hs hk; obtain ⟨cc, A, cap, cb, cf, ca, rfl, h1, h2, h3, h4, h5, h6⟩ := hC; have l2 := h2.len; have l4 := h4.len; have l5 := h5.len; have l6 := h6.len; simp only [tsz, if_true, if_false, Bool.false_eq_true] at l2 l4 l5 l6
 obtain ⟨x1, x2, x3, x4, x5, rfl⟩ : ∃ x1 x2 x3 x4 x5, cc = [x1, x2, x3, x4, x5] := by
  match cc, l2 with
  | [a, b, c, d, e], _ => exact ⟨_, _, _, _, _, rfl⟩
 obtain ⟨y1, y2, y3, y4, rfl⟩ : ∃ x1 x2 x3 x4, cb = [x1, x2, x3, x4] := by
  match cb, l4 with
  | [a, b, c, d], _ => exact ⟨_, _, _, _, rfl⟩
 obtain ⟨z1, z2, z3, z4, rfl⟩ : ∃ x1 x2 x3 x4, cf = [x1, x2, x3, x4] := by
  match cf, l5 with
  | [a, b, c, d], _ => exact ⟨_, _, _, _, rfl⟩
 obtain ⟨u1, u2, u3, u4, rfl⟩ : ∃ x1 x2 x3 x4, ca = [x1, x2, x3, x4] := by
  match ca, l6 with
  | [a, b, c, d], _ => exact ⟨_, _, _, _, rfl⟩
 exact ⟨_, A, cap, _, _, _, rfl, h1, h2, h3, h4, h5, h6⟩
theorem PW.setKN {w wX : World} {p fin : Nat} {ts l : List Tok} {P : Qf} (h : PW w wX p fin ts l P) (k : Nat) (s : List UInt8) : PW w (Hu (w.heap.size + 1) 2 [.int .i64 (k : Nat), vs s] wX) p fin ts l { P with kind := k, name := s } := by
 refine h.store 2 _ ?_; intro W C hC hs hk; obtain ⟨cc, A, cap, cb, cf, ca, rfl, h1, h2, h3, h4, h5, h6⟩ := hC; have l2 := h2.len; have l4 := h4.len; have l5 := h5.len; have l6 := h6.len; simp only [tsz, if_true, if_false, Bool.false_eq_true] at l2 l4 l5 l6
 obtain ⟨x1, x2, x3, x4, x5, rfl⟩ : ∃ x1 x2 x3 x4 x5, cc = [x1, x2, x3, x4, x5] := by
  match cc, l2 with
  | [a, b, c, d, e], _ => exact ⟨_, _, _, _, _, rfl⟩
 obtain ⟨y1, y2, y3, y4, rfl⟩ : ∃ x1 x2 x3 x4, cb = [x1, x2, x3, x4] := by
  match cb, l4 with
  | [a, b, c, d], _ => exact ⟨_, _, _, _, rfl⟩
 obtain ⟨z1, z2, z3, z4, rfl⟩ : ∃ x1 x2 x3 x4, cf = [x1, x2, x3, x4] := by
  match cf, l5 with
  | [a, b, c, d], _ => exact ⟨_, _, _, _, rfl⟩
 obtain ⟨u1, u2, u3, u4, rfl⟩ : ∃ x1 x2 x3 x4, ca = [x1, x2, x3, x4] := by
  match ca, l6 with
  | [a, b, c, d], _ => exact ⟨_, _, _, _, rfl⟩
 exact ⟨_, A, cap, _, _, _, rfl, h1, h2, h3, h4, h5, h6⟩
theorem PW.setName {w wX : World} {p fin : Nat} {ts l : List Tok} {P : Qf} (h : PW w wX p fin ts l P) (s : List UInt8) : PW w (Hu (w.heap.size + 1) 3 [vs s] wX) p fin ts l { P with name := s } := by
 refine h.store 3 _ ?_; intro W C hC hs hk; obtain ⟨cc, A, cap, cb, cf, ca, rfl, h1, h2, h3, h4, h5, h6⟩ := hC; have l2 := h2.len; have l4 := h4.len; have l5 := h5.len; have l6 := h6.len; simp only [tsz, if_true, if_false, Bool.false_eq_true] at l2 l4 l5 l6
 obtain ⟨x1, x2, x3, x4, x5, rfl⟩ : ∃ x1 x2 x3 x4 x5, cc = [x1, x2, x3, x4, x5] := by
  match cc, l2 with
  | [a, b, c, d, e], _ => exact ⟨_, _, _, _, _, rfl⟩
 obtain ⟨y1, y2, y3, y4, rfl⟩ : ∃ x1 x2 x3 x4, cb = [x1, x2, x3, x4] := by
  match cb, l4 with
  | [a, b, c, d], _ => exact ⟨_, _, _, _, rfl⟩
 obtain ⟨z1, z2, z3, z4, rfl⟩ : ∃ x1 x2 x3 x4, cf = [x1, x2, x3, x4] := by
  match cf, l5 with
  | [a, b, c, d], _ => exact ⟨_, _, _, _, rfl⟩
 obtain ⟨u1, u2, u3, u4, rfl⟩ : ∃ x1 x2 x3 x4, ca = [x1, x2, x3, x4] := by
  match ca, l6 with
  | [a, b, c, d], _ => exact ⟨_, _, _, _, rfl⟩
 exact ⟨_, A, cap, _, _, _, rfl, h1, h2, h3, h4, h5, h6⟩
theorem PW.setValue {w wX : World} {p fin : Nat} {ts l : List Tok} {P : Qf} (h : PW w wX p fin ts l P) (k : Nat) : PW w (Hu (w.heap.size + 1) 4 [.int .i64 (k : Nat)] wX) p fin ts l { P with value := k } := by
 refine h.store 4 _ ?_; intro W C hC hs hk; obtain ⟨cc, A, cap, cb, cf, ca, rfl, h1, h2, h3, h4, h5, h6⟩ := hC; have l2 := h2.len; have l4 := h4.len; have l5 := h5.len; have l6 := h6.len; simp only [tsz, if_true, if_false, Bool.false_eq_true] at l2 l4 l5 l6
 obtain ⟨x1, x2, x3, x4, x5, rfl⟩ : ∃ x1 x2 x3 x4 x5, cc = [x1, x2, x3, x4, x5] := by
  match cc, l2 with
  | [a, b, c, d, e], _ => exact ⟨_, _, _, _, _, rfl⟩
 obtain ⟨y1, y2, y3, y4, rfl⟩ : ∃ x1 x2 x3 x4, cb = [x1, x2, x3, x4] := by
  match cb, l4 with
  | [a, b, c, d], _ => exact ⟨_, _, _, _, rfl⟩
 obtain ⟨z1, z2, z3, z4, rfl⟩ : ∃ x1 x2 x3 x4, cf = [x1, x2, x3, x4] := by
  match cf, l5 with
  | [a, b, c, d], _ => exact ⟨_, _, _, _, rfl⟩
 obtain ⟨u1, u2, u3, u4, rfl⟩ : ∃ x1 x2 x3 x4, ca = [x1, x2, x3, x4] := by
  match ca, l6 with
  | [a, b, c, d], _ => exact ⟨_, _, _, _, rfl⟩
 exact ⟨_, A, cap, _, _, _, rfl, h1, h2, h3, h4, h5, h6⟩
theorem PW.setCond {w wX : World} {p fin : Nat} {ts l : List Tok} {P : Qf} (h : PW w wX p fin ts l P) (o : Nat) (nm : List UInt8) (cm m : Nat) (ks : List Qb) (K : Option Addr) (q : Nat) (ht : Qg true (fun k => w.heap.size + 2 <= k) wX (tcs true o nm cm m (.slice K ks.length q)) (.mk o nm cm m ks)) : PW w (Hu (w.heap.size + 1) 5 (tcs true o nm cm m (.slice K ks.length q)) wX) p fin ts l { P with cond := .mk o nm cm m ks } := by
 refine h.store 5 _ ?_; intro W C hC hs hk; obtain ⟨cc, A, cap, cb, cf, ca, rfl, h1, h2, h3, h4, h5, h6⟩ := hC; have l2 := h2.len; have l4 := h4.len; have l5 := h5.len; have l6 := h6.len; simp only [tsz, if_true, if_false, Bool.false_eq_true] at l2 l4 l5 l6
 obtain ⟨x1, x2, x3, x4, x5, rfl⟩ : ∃ x1 x2 x3 x4 x5, cc = [x1, x2, x3, x4, x5] := by
  match cc, l2 with
  | [a, b, c, d, e], _ => exact ⟨_, _, _, _, _, rfl⟩
 obtain ⟨y1, y2, y3, y4, rfl⟩ : ∃ x1 x2 x3 x4, cb = [x1, x2, x3, x4] := by
  match cb, l4 with
  | [a, b, c, d], _ => exact ⟨_, _, _, _, rfl⟩
 obtain ⟨z1, z2, z3, z4, rfl⟩ : ∃ x1 x2 x3 x4, cf = [x1, x2, x3, x4] := by
  match cf, l5 with
  | [a, b, c, d], _ => exact ⟨_, _, _, _, rfl⟩
 obtain ⟨u1, u2, u3, u4, rfl⟩ : ∃ x1 x2 x3 x4, ca = [x1, x2, x3, x4] := by
  match ca, l6 with
  | [a, b, c, d], _ => exact ⟨_, _, _, _, rfl⟩
 exact ⟨_, A, cap, _, _, _, rfl, h1, (ht.keep (by rw [hs]; exact lR _) (fun k a b => ⟨a, hk k a⟩)), h3, h4, h5, h6⟩
theorem PW.setExc {w wX : World} {p fin : Nat} {ts l : List Tok} {P : Qf} (h : PW w wX p fin ts l P) (e : List (List UInt8)) (B : Option Addr) (q : Nat) (hq : e.length <= q) (ht : RdEx (w.heap.size + 2) B e wX) : PW w (Hu (w.heap.size + 1) 10 [.slice B e.length q] wX) p fin ts l { P with exc := e } := by
 refine h.store 10 _ ?_; intro W C hC hs hk; obtain ⟨cc, A, cap, cb, cf, ca, rfl, h1, h2, h3, h4, h5, h6⟩ := hC; have l2 := h2.len; have l4 := h4.len; have l5 := h5.len; have l6 := h6.len; simp only [tsz, if_true, if_false, Bool.false_eq_true] at l2 l4 l5 l6
 obtain ⟨x1, x2, x3, x4, x5, rfl⟩ : ∃ x1 x2 x3 x4 x5, cc = [x1, x2, x3, x4, x5] := by
  match cc, l2 with
  | [a, b, c, d, e], _ => exact ⟨_, _, _, _, _, rfl⟩
 obtain ⟨y1, y2, y3, y4, rfl⟩ : ∃ x1 x2 x3 x4, cb = [x1, x2, x3, x4] := by
  match cb, l4 with
  | [a, b, c, d], _ => exact ⟨_, _, _, _, rfl⟩
 obtain ⟨z1, z2, z3, z4, rfl⟩ : ∃ x1 x2 x3 x4, cf = [x1, x2, x3, x4] := by
  match cf, l5 with
  | [a, b, c, d], _ => exact ⟨_, _, _, _, rfl⟩
 obtain ⟨u1, u2, u3, u4, rfl⟩ : ∃ x1 x2 x3 x4, ca = [x1, x2, x3, x4] := by
  match ca, l6 with
  | [a, b, c, d], _ => exact ⟨_, _, _, _, rfl⟩
 exact ⟨_, B, q, _, _, _, rfl, hq, h2, Kd.excS _ _ (by rw [hs]; exact lR _) (fun k a b => hk k a) ht, h4, h5, h6⟩
theorem PW.setBeg {w wX : World} {p fin : Nat} {ts l : List Tok} {P : Qf} (h : PW w wX p fin ts l P) (o : Nat) (nm : List UInt8) (cm m : Nat) (ks : List Qb) (K : Option Addr) (q : Nat) (ht : Qg false (fun k => w.heap.size + 2 <= k) wX (tcs false o nm cm m (.slice K ks.length q)) (.mk o nm cm m ks)) : PW w (Hu (w.heap.size + 1) 11 (tcs false o nm cm m (.slice K ks.length q)) wX) p fin ts l { P with beg := .mk o nm cm m ks } := by
 refine h.store 11 _ ?_; intro W C hC hs hk; obtain ⟨cc, A, cap, cb, cf, ca, rfl, h1, h2, h3, h4, h5, h6⟩ := hC; have l2 := h2.len; have l4 := h4.len; have l5 := h5.len; have l6 := h6.len; simp only [tsz, if_true, if_false, Bool.false_eq_true] at l2 l4 l5 l6
 obtain ⟨x1, x2, x3, x4, x5, rfl⟩ : ∃ x1 x2 x3 x4 x5, cc = [x1, x2, x3, x4, x5] := by
  match cc, l2 with
  | [a, b, c, d, e], _ => exact ⟨_, _, _, _, _, rfl⟩
 obtain ⟨y1, y2, y3, y4, rfl⟩ : ∃ x1 x2 x3 x4, cb = [x1, x2, x3, x4] := by
  match cb, l4 with
  | [a, b, c, d], _ => exact ⟨_, _, _, _, rfl⟩
 obtain ⟨z1, z2, z3, z4, rfl⟩ : ∃ x1 x2 x3 x4, cf = [x1, x2, x3, x4] := by
  match cf, l5 with
  | [a, b, c, d], _ => exact ⟨_, _, _, _, rfl⟩
 obtain ⟨u1, u2, u3, u4, rfl⟩ : ∃ x1 x2 x3 x4, ca = [x1, x2, x3, x4] := by
  match ca, l6 with
  | [a, b, c, d], _ => exact ⟨_, _, _, _, rfl⟩
 exact ⟨_, A, cap, _, _, _, rfl, h1, h2, h3, (ht.keep (by rw [hs]; exact lR _) (fun k a b => ⟨a, hk k a⟩)), h5, h6⟩
theorem PW.setFin {w wX : World} {p fin : Nat} {ts l : List Tok} {P : Qf} (h : PW w wX p fin ts l P) (o : Nat) (nm : List UInt8) (cm m : Nat) (ks : List Qb) (K : Option Addr) (q : Nat) (ht : Qg false (fun k => w.heap.size + 2 <= k) wX (tcs false o nm cm m (.slice K ks.length q)) (.mk o nm cm m ks)) : PW w (Hu (w.heap.size + 1) 15 (tcs false o nm cm m (.slice K ks.length q)) wX) p fin ts l { P with fin := .mk o nm cm m ks } := by
 refine h.store 15 _ ?_; intro W C hC hs hk; obtain ⟨cc, A, cap, cb, cf, ca, rfl, h1, h2, h3, h4, h5, h6⟩ := hC; have l2 := h2.len; have l4 := h4.len; have l5 := h5.len; have l6 := h6.len; simp only [tsz, if_true, if_false, Bool.false_eq_true] at l2 l4 l5 l6
 obtain ⟨x1, x2, x3, x4, x5, rfl⟩ : ∃ x1 x2 x3 x4 x5, cc = [x1, x2, x3, x4, x5] := by
  match cc, l2 with
  | [a, b, c, d, e], _ => exact ⟨_, _, _, _, _, rfl⟩
 obtain ⟨y1, y2, y3, y4, rfl⟩ : ∃ x1 x2 x3 x4, cb = [x1, x2, x3, x4] := by
  match cb, l4 with
  | [a, b, c, d], _ => exact ⟨_, _, _, _, rfl⟩
 obtain ⟨z1, z2, z3, z4, rfl⟩ : ∃ x1 x2 x3 x4, cf = [x1, x2, x3, x4] := by
  match cf, l5 with
  | [a, b, c, d], _ => exact ⟨_, _, _, _, rfl⟩
 obtain ⟨u1, u2, u3, u4, rfl⟩ : ∃ x1 x2 x3 x4, ca = [x1, x2, x3, x4] := by
  match ca, l6 with
  | [a, b, c, d], _ => exact ⟨_, _, _, _, rfl⟩
 exact ⟨_, A, cap, _, _, _, rfl, h1, h2, h3, h4, (ht.keep (by rw [hs]; exact lR _) (fun k a b => ⟨a, hk k a⟩)), h6⟩
theorem PW.setAga {w wX : World} {p fin : Nat} {ts l : List Tok} {P : Qf} (h : PW w wX p fin ts l P) (o : Nat) (nm : List UInt8) (cm m : Nat) (ks : List Qb) (K : Option Addr) (q : Nat) (ht : Qg false (fun k => w.heap.size + 2 <= k) wX (tcs false o nm cm m (.slice K ks.length q)) (.mk o nm cm m ks)) : PW w (Hu (w.heap.size + 1) 19 (tcs false o nm cm m (.slice K ks.length q)) wX) p fin ts l { P with aga := .mk o nm cm m ks } := by
 refine h.store 19 _ ?_; intro W C hC hs hk; obtain ⟨cc, A, cap, cb, cf, ca, rfl, h1, h2, h3, h4, h5, h6⟩ := hC; have l2 := h2.len; have l4 := h4.len; have l5 := h5.len; have l6 := h6.len; simp only [tsz, if_true, if_false, Bool.false_eq_true] at l2 l4 l5 l6
 obtain ⟨x1, x2, x3, x4, x5, rfl⟩ : ∃ x1 x2 x3 x4 x5, cc = [x1, x2, x3, x4, x5] := by
  match cc, l2 with
  | [a, b, c, d, e], _ => exact ⟨_, _, _, _, _, rfl⟩
 obtain ⟨y1, y2, y3, y4, rfl⟩ : ∃ x1 x2 x3 x4, cb = [x1, x2, x3, x4] := by
  match cb, l4 with
  | [a, b, c, d], _ => exact ⟨_, _, _, _, rfl⟩
 obtain ⟨z1, z2, z3, z4, rfl⟩ : ∃ x1 x2 x3 x4, cf = [x1, x2, x3, x4] := by
  match cf, l5 with
  | [a, b, c, d], _ => exact ⟨_, _, _, _, rfl⟩
 obtain ⟨u1, u2, u3, u4, rfl⟩ : ∃ x1 x2 x3 x4, ca = [x1, x2, x3, x4] := by
  match ca, l6 with
  | [a, b, c, d], _ => exact ⟨_, _, _, _, rfl⟩
 exact ⟨_, A, cap, _, _, _, rfl, h1, h2, h3, h4, h5, (ht.keep (by rw [hs]; exact lR _) (fun k a b => ⟨a, hk k a⟩))⟩
theorem PW.start {p fin : Nat} {ts l : List Tok} {w : World} (hp : PS w p fin ts l) : PW w ((w.alloc (.cells Bw.toArray 30 (0, 0))).alloc (.cells [.string ⟨#[]⟩, .int .i64 0, .int .i64 1, .string ⟨#[]⟩, .int .i64 0, .int .i64 1, .string ⟨#[]⟩, .int .i64 0, .int .i64 0, .slice none 0 0, .slice none 0 0, .int .i64 1, .string ⟨#[]⟩, .int .i64 0, .slice none 0 0, .int .i64 2, .string ⟨#[]⟩, .int .i64 0, .slice none 0 0, .int .i64 2, .string ⟨#[]⟩, .int .i64 0, .slice none 0 0].toArray 30 (0, 0))) p fin ts l P0 :=
 ⟨Qi (Qi hp _) _, (Qd p w _).trans (Qd p _ _), ⟨_, Qe (by simp), tcs true 1 [] 0 0 (.slice none 0 0), none, 0, tcs false 1 [] 0 0 (.slice none 0 0), tcs false 2 [] 0 0 (.slice none 0 0), tcs false 2 [] 0 0 (.slice none 0 0), rfl, lR _, Qg.leaf 1 [] 0 0 none 0, ⟨Sl.nil, fun b o e => by cases e⟩, Qg.leaf 1 [] 0 0 none 0, Qg.leaf 2 [] 0 0 none 0, Qg.leaf 2 [] 0 0 none 0⟩, Qn (Qe rfl), hp.lt⟩
theorem L1 {w wX : World} {p fin : Nat} {ts : List Tok} {res : R Qf} {P : Qf} {C : List Value} {r : List Tok} (h : PW w wX p fin ts r P) (hc : Jy (w.heap.size + 2) wX C P) (hr : res = .ok (P, r)) :
 Wp p fin ts w res (Sk w) (.returned (.agg C.toArray)) (wX.setRow w.heap.size C.toArray) := by
 rw [hr]; have ho : Off w.heap.size wX (wX.setRow w.heap.size C.toArray) := Off.row _ _; have aS := h.lt; exact ⟨_, rfl, ⟨_, rfl, hc.weak (by omega) (Nat.le_of_eq ho.size.symm) (fun k hk _ => ho.block k (by omega))⟩, h.ps.off ho aS, h.eff.off ho (lR _)⟩
end So
end
set_option maxRecDepth 20000
set_option maxHeartbeats 4000000
section
namespace So
open Go.RowKit Go.Maps
def pv0y (P : Qf) (r : List Tok) : R Qf := Qc (Zc r) fun t r => pv1 { P with cond := t } r
def pv2y (P : Qf) (r : List Tok) : R Qf := Qc (Kx r) fun e r => pv3 { P with exc := e } r
def pv3y (P : Qf) (r : List Tok) : R Qf := Qc (Jk r) fun t r => pv4 { P with beg := t } r
def pv4y (P : Qf) (r : List Tok) : R Qf := Qc (Jk r) fun t r => pv5 { P with fin := t } r
def pv5y (P : Qf) (r : List Tok) : R Qf := Qc (Jk r) fun t r => pv6 { P with aga := t } r
theorem qed {l : List Value} (h : ∀ v ∈ l, v.oneCell' = true) : Jw l = true := by
 induction l with
 | nil => rfl
 | cons a r ih => simp only [Jw, h a (by simp), ih (fun v hv => h v (by simp [hv])), Bool.and_self]
theorem Xu {l m : List Value} (h : ∀ v ∈ l, v.oneCell' = true) : Jw (l ++ m) = Jw m := by
 induction l with
 | nil => rfl
 | cons a r ih => simp only [List.cons_append, Jw, h a (by simp), ih (fun v hv => h v (by simp [hv])), Bool.true_and]
theorem L2 (p fin : Nat) (ts l : List Tok) (w : World) (hp : PS w p fin ts l) :
 Calls Tryz.prog 56 #[.pointer (some ⟨p, 0, none⟩)] w (Wp p fin ts w (Q4 (Qk l)) (Sk w)) := by
 have HP := Hi hp; have cX := hp.lt; clear hp; have cY := @run_makeMap Tryz.prog; go_enter Tryz.func56, Tryz.ntmps56
 go_wp2_with fail; rw [J2 _ _ _ _ _ (by rfl) (by rfl) (by rfl)]; go_upto_region 2 with fail; obtain ⟨P, r, hR, hw⟩ := (⟨P0, l, qc0 l, PW.start HP.out⟩ : ∃ P r, Q4 (Qk l) = pv0 P r /\ PW w _ p fin ts r P)
 have HR := Hi hR; have HW := Hi hw; clear hR hw; go_upto_region 2 with fail; go_cut [10] from 4 (fun s wx => ∃ (P : Qf) (r r' : List Tok) (bb : Bool), s = .bool bb /\ Q4 (Qk l) = pv0 P r /\ Ji [[119, 104, 101, 114, 101]] r = bb /\ r' = (if bb then r.tail else r) /\ PW w wx p fin ts r' P)
 case first =>
  cases hs : Ji [[119, 104, 101, 114, 101]] r with
  | true =>
    have HS := Hi hs; clear hs; go_wp2_with fail; refine (X0 [119, 104, 101, 114, 101] p fin ts r _ HW.out.ps HS.out).mono ?_; rintro e w2 ⟨rfl, hp, he⟩; have aA := Hi (HW.out.call he hp); clear hp he; go_wp2_with fail; go_meet
    case rel => exact ⟨_, r, _, true, rfl, HR.out, HS.out, rfl, aA.out⟩
  | false =>
    have HS := Hi hs; clear hs; go_wp2_with fail; refine (Wu [119, 104, 101, 114, 101] p fin ts r _ HW.out.ps HS.out).mono ?_; rintro e w2 ⟨rfl, hb⟩; have aA := Hi (HW.out.below hb); clear hb; go_wp2_with fail; go_meet
    case rel => exact ⟨_, r, _, false, rfl, HR.out, HS.out, rfl, aA.out⟩
 clear HR HW P r; obtain ⟨P, r0, r, bb, rfl, hR, aH, aI, hw⟩ := hcut; have aF := Hi hR; have aD := Hi aH; have aE := Hi aI; have HW := Hi hw; clear hR aH aI hw; go_upto_if 10 with fail; go_cut [] from 4 (fun wx => ∃ (P : Qf) (r : List Tok), Q4 (Qk l) = pv1 P r /\ PW w wx p fin ts r P)
 case first =>
  cases bb with
  | false =>
    go_wp2_with fail; go_meet
    case rel => exact ⟨P, r, by rw [aF.out]; unfold pv0; rw [J5 aD.out, aE.out]; rfl, HW.out⟩
  | true =>
    have aL : Hid (Q4 (Qk l) = pv0y P r) := Hi (by rw [aF.out]; unfold pv0; rw [Xi aD.out, aE.out]; rfl); go_wp2_with fail; refine Qq (Fs p fin ts r _ HW.out.ps) ?_ ?_
    case refine_2 =>
     intro c s wE hq aC; have aB : Hid (Q4 (Qk l) = .error (c, s)) := Hi (by rw [aL.out, pv0y, hq]; rfl); clear hq; go_wp2_with fail; refine ⟨rfl, ?_⟩; rw [aB.out]; exact ⟨rfl, HW.out.eff.trans aC⟩
    case refine_1 =>
     intro t r2 v w2 hq hv aJ aK; have aA := Hi (HW.out.call aK aJ); have aP : Hid (∀ P2 : Qf, ({ P with cond := t } : Qf) = P2 -> Q4 (Qk l) = pv1 P2 r2) := Hi (by rintro _ rfl; rw [aL.out, pv0y, hq]; rfl); obtain ⟨cs, rfl, aN⟩ := hv; have aZ := Hi aN; obtain ⟨o', nm', cm', m', ks'⟩ := t; obtain ⟨K', q', rfl, -, -⟩ := aN; simp only [tcs]; obtain ⟨v5, e5, g5⟩ := aA.out.cells 5 (by decide); obtain ⟨v6, e6, g6⟩ := aA.out.cells 6 (by decide); obtain ⟨v7, e7, g7⟩ := aA.out.cells 7 (by decide); obtain ⟨v8, e8, g8⟩ := aA.out.cells 8 (by decide); obtain ⟨v9, e9, g9⟩ := aA.out.cells 9 (by decide); have dl := aA.out.room; have aG := Hi (aA.out.setCond o' nm' cm' m' ks' K' q' (aZ.out.keep (lR _) (fun b hb _ => ⟨by have := HW.out.room; omega, rfl⟩))); clear hq aJ aK; go_wp2_with fail; go_meet
     case rel => exact ⟨_, _, aP.out _ rfl, aG.out⟩
 clear aF aD aE HW P r r0; obtain ⟨P, r, hR, hw⟩ := hcut; have HR := Hi hR; have HW := Hi hw; clear hR hw; go_upto_region 4 with fail; go_cut [15] from 4 (fun s wx => ∃ (P : Qf) (r r' : List Tok) (bb : Bool), s = .bool bb /\ Q4 (Qk l) = pv1 P r /\ Ji [[116, 101, 114, 109]] r = bb /\ r' = (if bb then r.tail else r) /\ PW w wx p fin ts r' P)
 case first =>
  cases hs : Ji [[116, 101, 114, 109]] r with
  | true =>
    have HS := Hi hs; clear hs; go_wp2_with fail; refine (X0 [116, 101, 114, 109] p fin ts r _ HW.out.ps HS.out).mono ?_; rintro e w2 ⟨rfl, hp, he⟩; have aA := Hi (HW.out.call he hp); clear hp he; go_wp2_with fail; go_meet
    case rel => exact ⟨_, r, _, true, rfl, HR.out, HS.out, rfl, aA.out⟩
  | false =>
    have HS := Hi hs; clear hs; go_wp2_with fail; refine (Wu [116, 101, 114, 109] p fin ts r _ HW.out.ps HS.out).mono ?_; rintro e w2 ⟨rfl, hb⟩; have aA := Hi (HW.out.below hb); clear hb; go_wp2_with fail; go_meet
    case rel => exact ⟨_, r, _, false, rfl, HR.out, HS.out, rfl, aA.out⟩
 clear HR HW P r; obtain ⟨P, r0, r, bb, rfl, hR, aH, aI, hw⟩ := hcut; have aF := Hi hR; have aD := Hi aH; have aE := Hi aI; have HW := Hi hw; clear hR aH aI hw; go_upto_if 15 with fail; go_cut [] from 4 (fun wx => ∃ (P : Qf) (r : List Tok), Q4 (Qk l) = pv2 P r /\ PW w wx p fin ts r P)
 case first =>
  cases bb with
  | true =>
    have HR : Hid (Q4 (Qk l) = pvT P r) := Hi (by rw [aF.out]; unfold pv1; rw [Xi aD.out, aE.out]; rfl); go_wp2_with fail; refine Qq (Km p fin ts r _ HW.out.ps) ?_ ?_
    case refine_2 =>
     intro c s wE hq aC; have aB : Hid (Q4 (Qk l) = .error (c, s)) := Hi (by rw [HR.out, pvT, hq]; rfl); clear hq; go_wp2_with fail; refine ⟨rfl, ?_⟩; rw [aB.out]; exact ⟨rfl, HW.out.eff.trans aC⟩
    intro sN rN vN wN hq hv aR aU; obtain ⟨tN, rfl, rfl⟩ := hv; have aM := Hi (HW.out.call aU aR); have aY : Hid (∀ P2 : Qf, ({ P with name := tN.text } : Qf) = P2 -> Q4 (Qk l) = pv2 P2 rN) := Hi (by rintro _ rfl; rw [HR.out, pvT, hq]; rfl); simp only [Tok.agg]; obtain ⟨v3, e3, g3⟩ := aM.out.cells 3 (by decide); have dl := aM.out.room; clear hq aR aU; go_wp2_with fail; have aG := Hi (aM.out.setName tN.text); go_meet
    case rel => exact ⟨_, _, aY.out _ rfl, aG.out⟩
  | false =>
    have HR : Hid (Q4 (Qk l) = pvQ P r) := Hi (by rw [aF.out]; unfold pv1; rw [J5 aD.out, aE.out]; rfl); go_wp2_with fail; refine Qq (Xk [113, 117, 101, 115, 116, 105, 111, 110] p fin ts r _ HW.out.ps) ?_ ?_
    case refine_2 =>
     intro c s wE hq aC; have aB : Hid (Q4 (Qk l) = .error (c, s)) := Hi (by rw [HR.out, pvQ, hq]; rfl); clear hq; go_wp2_with fail; refine ⟨rfl, ?_⟩; rw [aB.out]; exact ⟨rfl, HW.out.eff.trans aC⟩
    intro u rn v wn hq hv aQ aT; subst hv; have aX : Hid (Q4 (Qk l) = pvN P rn) := Hi (by rw [HR.out, pvQ, hq]; rfl); have aV := Hi (HW.out.call aT aQ); clear hq aQ aT; clear HR HW; have HR := aX; have HW := aV; clear aX aV; go_wp2_with fail; refine Qq (Km p fin ts rn _ HW.out.ps) ?_ ?_
    case refine_2 =>
     intro c s wE hq aC; have aB : Hid (Q4 (Qk l) = .error (c, s)) := Hi (by rw [HR.out, pvN, hq]; rfl); clear hq; go_wp2_with fail; refine ⟨rfl, ?_⟩; rw [aB.out]; exact ⟨rfl, HW.out.eff.trans aC⟩
    intro sN rN vN wN hq hv aR aU; obtain ⟨tN, rfl, rfl⟩ := hv; have aM := Hi (HW.out.call aU aR); have aY : Hid (∀ P2 : Qf, ({ P with kind := 2, name := tN.text } : Qf) = P2 -> Q4 (Qk l) = pvG P2 rN) := Hi (by rintro _ rfl; rw [HR.out, pvN, hq]; rfl); simp only [Tok.agg]; obtain ⟨v2, e2, g2⟩ := aM.out.cells 2 (by decide); obtain ⟨v3, e3, g3⟩ := aM.out.cells 3 (by decide); have dl := aM.out.room; clear hq aR aU; go_wp2_with fail; have aG := Hi (aM.out.setKN 2 tN.text); have bG := Hi (aY.out _ rfl); generalize ({ P with kind := 2, name := tN.text } : Qf) = P2 at aG bG; refine Qq (Xk [103, 105, 118, 101, 115] p fin ts rN _ aG.out.ps) ?_ ?_
    case refine_2 =>
     intro c s wE hq aC; have aB : Hid (Q4 (Qk l) = .error (c, s)) := Hi (by rw [bG.out, pvG, hq]; rfl); clear hq; go_wp2_with fail; refine ⟨rfl, ?_⟩; rw [aB.out]; exact ⟨rfl, aG.out.eff.trans aC⟩
    intro u bM v wn hq hv aQ aT; subst hv; have aX : Hid (Q4 (Qk l) = pvV P2 bM) := Hi (by rw [bG.out, pvG, hq]; rfl); have aV := Hi (aG.out.call aT aQ); clear hq aQ aT; clear HR HW bG; have HR := aX; have HW := aV; clear aX aV; go_wp2_with fail; refine Qq (Oc 1000000 p fin ts bM _ HW.out.ps) ?_ ?_
    case refine_2 =>
     intro c s wE hq aC; have aB : Hid (Q4 (Qk l) = .error (c, s)) := Hi (by rw [HR.out, pvV, hq]; rfl); clear hq; go_wp2_with fail; refine ⟨rfl, ?_⟩; rw [aB.out]; exact ⟨rfl, HW.out.eff.trans aC⟩
    intro vv rL vL wL hq hv bQ bT; subst hv; have bI := Hi (HW.out.call bT bQ); have cC : Hid (Q4 (Qk l) = pv2 { P2 with value := vv } rL) := Hi (by rw [HR.out, pvV, hq]; rfl); obtain ⟨v4, e4, g4⟩ := bI.out.cells 4 (by decide); have dl := bI.out.room; clear hq bQ bT; go_wp2_with fail; have bK := Hi (bI.out.setValue vv); go_meet
    case rel => exact ⟨_, _, cC.out, bK.out⟩
 clear aF aD aE HW P r r0; obtain ⟨P, r, hR, hw⟩ := hcut; have HR := Hi hR; have HW := Hi hw; clear hR hw; go_upto_region 10 with fail; go_cut [33] from 4 (fun s wx => ∃ (P : Qf) (r r' : List Tok) (bb : Bool), s = .bool bb /\ Q4 (Qk l) = pv2 P r /\ Ji [[111, 118, 101, 114, 114, 105, 100, 101, 115]] r = bb /\ r' = (if bb then r.tail else r) /\ PW w wx p fin ts r' P)
 case first =>
  cases hs : Ji [[111, 118, 101, 114, 114, 105, 100, 101, 115]] r with
  | true =>
    have HS := Hi hs; clear hs; go_wp2_with fail; refine (X0 [111, 118, 101, 114, 114, 105, 100, 101, 115] p fin ts r _ HW.out.ps HS.out).mono ?_; rintro e w2 ⟨rfl, hp, he⟩; have aA := Hi (HW.out.call he hp); clear hp he; go_wp2_with fail; go_meet
    case rel => exact ⟨_, r, _, true, rfl, HR.out, HS.out, rfl, aA.out⟩
  | false =>
    have HS := Hi hs; clear hs; go_wp2_with fail; refine (Wu [111, 118, 101, 114, 114, 105, 100, 101, 115] p fin ts r _ HW.out.ps HS.out).mono ?_; rintro e w2 ⟨rfl, hb⟩; have aA := Hi (HW.out.below hb); clear hb; go_wp2_with fail; go_meet
    case rel => exact ⟨_, r, _, false, rfl, HR.out, HS.out, rfl, aA.out⟩
 clear HR HW P r; obtain ⟨P, r0, r, bb, rfl, hR, aH, aI, hw⟩ := hcut; have aF := Hi hR; have aD := Hi aH; have aE := Hi aI; have HW := Hi hw; clear hR aH aI hw; go_upto_if 33 with fail; go_cut [] from 4 (fun wx => ∃ (P : Qf) (r : List Tok), Q4 (Qk l) = pv3 P r /\ PW w wx p fin ts r P)
 case first =>
  cases bb with
  | false =>
    go_wp2_with fail; go_meet
    case rel => exact ⟨P, r, by rw [aF.out]; unfold pv2; rw [J5 aD.out, aE.out]; rfl, HW.out⟩
  | true =>
    have aL : Hid (Q4 (Qk l) = pv2y P r) := Hi (by rw [aF.out]; unfold pv2; rw [Xi aD.out, aE.out]; rfl); go_wp2_with fail; refine Qq (G8 p fin ts r _ HW.out.ps) ?_ ?_
    case refine_2 =>
     intro c s wE hq aC; have aB : Hid (Q4 (Qk l) = .error (c, s)) := Hi (by rw [aL.out, pv2y, hq]; rfl); clear hq; go_wp2_with fail; refine ⟨rfl, ?_⟩; rw [aB.out]; exact ⟨rfl, HW.out.eff.trans aC⟩
    case refine_1 =>
     intro t r2 v w2 hq hv aJ aK; have aA := Hi (HW.out.call aK aJ); have aP : Hid (∀ P2 : Qf, ({ P with exc := t } : Qf) = P2 -> Q4 (Qk l) = pv3 P2 r2) := Hi (by rintro _ rfl; rw [aL.out, pv2y, hq]; rfl); obtain ⟨K', q', rfl, bA, bP, hA⟩ := hv; have bX := Hi bA; have cD := Hi bP; have HA := Hi hA; clear bA bP hA; obtain ⟨cW, dZ, dM⟩ := aA.out.cells 10 (by decide); have dl := aA.out.room; have aG := Hi (aA.out.setExc t K' q' bX.out ⟨cD.out, fun b o e => ⟨by have := (HA.out b o e).1; have := HW.out.room; omega, (HA.out b o e).2⟩⟩); clear hq aJ aK; go_wp2_with fail; go_meet
     case rel => exact ⟨_, _, aP.out _ rfl, aG.out⟩
 clear aF aD aE HW P r r0; obtain ⟨P, r, hR, hw⟩ := hcut; have HR := Hi hR; have HW := Hi hw; clear hR hw; go_upto_region 12 with fail; go_cut [38] from 4 (fun s wx => ∃ (P : Qf) (r r' : List Tok) (bb : Bool), s = .bool bb /\ Q4 (Qk l) = pv3 P r /\ Ji [[115, 116, 97, 114, 116, 115]] r = bb /\ r' = (if bb then r.tail else r) /\ PW w wx p fin ts r' P)
 case first =>
  cases hs : Ji [[115, 116, 97, 114, 116, 115]] r with
  | true =>
    have HS := Hi hs; clear hs; go_wp2_with fail; refine (X0 [115, 116, 97, 114, 116, 115] p fin ts r _ HW.out.ps HS.out).mono ?_; rintro e w2 ⟨rfl, hp, he⟩; have aA := Hi (HW.out.call he hp); clear hp he; go_wp2_with fail; go_meet
    case rel => exact ⟨_, r, _, true, rfl, HR.out, HS.out, rfl, aA.out⟩
  | false =>
    have HS := Hi hs; clear hs; go_wp2_with fail; refine (Wu [115, 116, 97, 114, 116, 115] p fin ts r _ HW.out.ps HS.out).mono ?_; rintro e w2 ⟨rfl, hb⟩; have aA := Hi (HW.out.below hb); clear hb; go_wp2_with fail; go_meet
    case rel => exact ⟨_, r, _, false, rfl, HR.out, HS.out, rfl, aA.out⟩
 clear HR HW P r; obtain ⟨P, r0, r, bb, rfl, hR, aH, aI, hw⟩ := hcut; have aF := Hi hR; have aD := Hi aH; have aE := Hi aI; have HW := Hi hw; clear hR aH aI hw; go_upto_if 38 with fail; go_cut [] from 4 (fun wx => ∃ (P : Qf) (r : List Tok), Q4 (Qk l) = pv4 P r /\ PW w wx p fin ts r P)
 case first =>
  cases bb with
  | false =>
    go_wp2_with fail; go_meet
    case rel => exact ⟨P, r, by rw [aF.out]; unfold pv3; rw [J5 aD.out, aE.out]; rfl, HW.out⟩
  | true =>
    have aL : Hid (Q4 (Qk l) = pv3y P r) := Hi (by rw [aF.out]; unfold pv3; rw [Xi aD.out, aE.out]; rfl); go_wp2_with fail; refine Qq (Y6 p fin ts r _ HW.out.ps) ?_ ?_
    case refine_2 =>
     intro c s wE hq aC; have aB : Hid (Q4 (Qk l) = .error (c, s)) := Hi (by rw [aL.out, pv3y, hq]; rfl); clear hq; go_wp2_with fail; refine ⟨rfl, ?_⟩; rw [aB.out]; exact ⟨rfl, HW.out.eff.trans aC⟩
    case refine_1 =>
     intro t r2 v w2 hq hv aJ aK; have aA := Hi (HW.out.call aK aJ); have aP : Hid (∀ P2 : Qf, ({ P with beg := t } : Qf) = P2 -> Q4 (Qk l) = pv4 P2 r2) := Hi (by rintro _ rfl; rw [aL.out, pv3y, hq]; rfl); obtain ⟨cs, rfl, aN⟩ := hv; have aZ := Hi aN; obtain ⟨o', nm', cm', m', ks'⟩ := t; obtain ⟨K', q', rfl, -, -⟩ := aN; simp only [tcs]; obtain ⟨cV, dY, dL⟩ := aA.out.cells 11 (by decide); obtain ⟨cU, dX, dK⟩ := aA.out.cells 12 (by decide); obtain ⟨cT, dW, dJ⟩ := aA.out.cells 13 (by decide); obtain ⟨cS, dV, dI⟩ := aA.out.cells 14 (by decide); have dl := aA.out.room; have aG := Hi (aA.out.setBeg o' nm' cm' m' ks' K' q' (aZ.out.keep (lR _) (fun b hb _ => ⟨by have := HW.out.room; omega, rfl⟩))); clear hq aJ aK; go_wp2_with fail; go_meet
     case rel => exact ⟨_, _, aP.out _ rfl, aG.out⟩
 clear aF aD aE HW P r r0; obtain ⟨P, r, hR, hw⟩ := hcut; have HR := Hi hR; have HW := Hi hw; clear hR hw; go_upto_region 14 with fail; go_cut [43] from 4 (fun s wx => ∃ (P : Qf) (r r' : List Tok) (bb : Bool), s = .bool bb /\ Q4 (Qk l) = pv4 P r /\ Ji [[101, 110, 100, 115]] r = bb /\ r' = (if bb then r.tail else r) /\ PW w wx p fin ts r' P)
 case first =>
  cases hs : Ji [[101, 110, 100, 115]] r with
  | true =>
    have HS := Hi hs; clear hs; go_wp2_with fail; refine (X0 [101, 110, 100, 115] p fin ts r _ HW.out.ps HS.out).mono ?_; rintro e w2 ⟨rfl, hp, he⟩; have aA := Hi (HW.out.call he hp); clear hp he; go_wp2_with fail; go_meet
    case rel => exact ⟨_, r, _, true, rfl, HR.out, HS.out, rfl, aA.out⟩
  | false =>
    have HS := Hi hs; clear hs; go_wp2_with fail; refine (Wu [101, 110, 100, 115] p fin ts r _ HW.out.ps HS.out).mono ?_; rintro e w2 ⟨rfl, hb⟩; have aA := Hi (HW.out.below hb); clear hb; go_wp2_with fail; go_meet
    case rel => exact ⟨_, r, _, false, rfl, HR.out, HS.out, rfl, aA.out⟩
 clear HR HW P r; obtain ⟨P, r0, r, bb, rfl, hR, aH, aI, hw⟩ := hcut; have aF := Hi hR; have aD := Hi aH; have aE := Hi aI; have HW := Hi hw; clear hR aH aI hw; go_upto_if 43 with fail; go_cut [] from 4 (fun wx => ∃ (P : Qf) (r : List Tok), Q4 (Qk l) = pv5 P r /\ PW w wx p fin ts r P)
 case first =>
  cases bb with
  | false =>
    go_wp2_with fail; go_meet
    case rel => exact ⟨P, r, by rw [aF.out]; unfold pv4; rw [J5 aD.out, aE.out]; rfl, HW.out⟩
  | true =>
    have aL : Hid (Q4 (Qk l) = pv4y P r) := Hi (by rw [aF.out]; unfold pv4; rw [Xi aD.out, aE.out]; rfl); go_wp2_with fail; refine Qq (Y6 p fin ts r _ HW.out.ps) ?_ ?_
    case refine_2 =>
     intro c s wE hq aC; have aB : Hid (Q4 (Qk l) = .error (c, s)) := Hi (by rw [aL.out, pv4y, hq]; rfl); clear hq; go_wp2_with fail; refine ⟨rfl, ?_⟩; rw [aB.out]; exact ⟨rfl, HW.out.eff.trans aC⟩
    case refine_1 =>
     intro t r2 v w2 hq hv aJ aK; have aA := Hi (HW.out.call aK aJ); have aP : Hid (∀ P2 : Qf, ({ P with fin := t } : Qf) = P2 -> Q4 (Qk l) = pv5 P2 r2) := Hi (by rintro _ rfl; rw [aL.out, pv4y, hq]; rfl); obtain ⟨cs, rfl, aN⟩ := hv; have aZ := Hi aN; obtain ⟨o', nm', cm', m', ks'⟩ := t; obtain ⟨K', q', rfl, -, -⟩ := aN; simp only [tcs]; obtain ⟨cR, dU, dH⟩ := aA.out.cells 15 (by decide); obtain ⟨cQ, dT, dG⟩ := aA.out.cells 16 (by decide); obtain ⟨cP, dS, dF⟩ := aA.out.cells 17 (by decide); obtain ⟨cO, dR, dE⟩ := aA.out.cells 18 (by decide); have dl := aA.out.room; have aG := Hi (aA.out.setFin o' nm' cm' m' ks' K' q' (aZ.out.keep (lR _) (fun b hb _ => ⟨by have := HW.out.room; omega, rfl⟩))); clear hq aJ aK; go_wp2_with fail; go_meet
     case rel => exact ⟨_, _, aP.out _ rfl, aG.out⟩
 clear aF aD aE HW P r r0; obtain ⟨P, r, hR, hw⟩ := hcut; have HR := Hi hR; have HW := Hi hw; clear hR hw; go_upto_region 16 with fail; go_cut [48] from 4 (fun s wx => ∃ (P : Qf) (r r' : List Tok) (bb : Bool), s = .bool bb /\ Q4 (Qk l) = pv5 P r /\ Ji [[114, 101, 116, 117, 114, 110, 115]] r = bb /\ r' = (if bb then r.tail else r) /\ PW w wx p fin ts r' P)
 case first =>
  cases hs : Ji [[114, 101, 116, 117, 114, 110, 115]] r with
  | true =>
    have HS := Hi hs; clear hs; go_wp2_with fail; refine (X0 [114, 101, 116, 117, 114, 110, 115] p fin ts r _ HW.out.ps HS.out).mono ?_; rintro e w2 ⟨rfl, hp, he⟩; have aA := Hi (HW.out.call he hp); clear hp he; go_wp2_with fail; go_meet
    case rel => exact ⟨_, r, _, true, rfl, HR.out, HS.out, rfl, aA.out⟩
  | false =>
    have HS := Hi hs; clear hs; go_wp2_with fail; refine (Wu [114, 101, 116, 117, 114, 110, 115] p fin ts r _ HW.out.ps HS.out).mono ?_; rintro e w2 ⟨rfl, hb⟩; have aA := Hi (HW.out.below hb); clear hb; go_wp2_with fail; go_meet
    case rel => exact ⟨_, r, _, false, rfl, HR.out, HS.out, rfl, aA.out⟩
 clear HR HW P r; obtain ⟨P, r0, r, bb, rfl, hR, aH, aI, hw⟩ := hcut; have aF := Hi hR; have aD := Hi aH; have aE := Hi aI; have HW := Hi hw; clear hR aH aI hw; go_upto_if 48 with fail; go_cut [] from 4 (fun wx => ∃ (P : Qf) (r : List Tok), Q4 (Qk l) = pv6 P r /\ PW w wx p fin ts r P)
 case first =>
  cases bb with
  | false =>
    go_wp2_with fail; go_meet
    case rel => exact ⟨P, r, by rw [aF.out]; unfold pv5; rw [J5 aD.out, aE.out]; rfl, HW.out⟩
  | true =>
    have aL : Hid (Q4 (Qk l) = pv5y P r) := Hi (by rw [aF.out]; unfold pv5; rw [Xi aD.out, aE.out]; rfl); go_wp2_with fail; refine Qq (Y6 p fin ts r _ HW.out.ps) ?_ ?_
    case refine_2 =>
     intro c s wE hq aC; have aB : Hid (Q4 (Qk l) = .error (c, s)) := Hi (by rw [aL.out, pv5y, hq]; rfl); clear hq; go_wp2_with fail; refine ⟨rfl, ?_⟩; rw [aB.out]; exact ⟨rfl, HW.out.eff.trans aC⟩
    case refine_1 =>
     intro t r2 v w2 hq hv aJ aK; have aA := Hi (HW.out.call aK aJ); have aP : Hid (∀ P2 : Qf, ({ P with aga := t } : Qf) = P2 -> Q4 (Qk l) = pv6 P2 r2) := Hi (by rintro _ rfl; rw [aL.out, pv5y, hq]; rfl); obtain ⟨cs, rfl, aN⟩ := hv; have aZ := Hi aN; obtain ⟨o', nm', cm', m', ks'⟩ := t; obtain ⟨K', q', rfl, -, -⟩ := aN; simp only [tcs]; obtain ⟨cN, dQ, dD⟩ := aA.out.cells 19 (by decide); obtain ⟨cM, dP, dC⟩ := aA.out.cells 20 (by decide); obtain ⟨cL, dO, dB⟩ := aA.out.cells 21 (by decide); obtain ⟨cK, dN, dA⟩ := aA.out.cells 22 (by decide); have dl := aA.out.room; have aG := Hi (aA.out.setAga o' nm' cm' m' ks' K' q' (aZ.out.keep (lR _) (fun b hb _ => ⟨by have := HW.out.room; omega, rfl⟩))); clear hq aJ aK; go_wp2_with fail; go_meet
     case rel => exact ⟨_, _, aP.out _ rfl, aG.out⟩
 clear aF aD aE HW P r r0; obtain ⟨P, r, hR, hw⟩ := hcut; have HR := Hi hR; have HW := Hi hw; clear hR hw; go_wp2_with fail; refine Qq (Xk [91] p fin ts r _ HW.out.ps) ?_ ?_
 case refine_2 =>
  intro c s wE hq aC; have aB : Hid (Q4 (Qk l) = .error (c, s)) := Hi (by rw [HR.out, pv6, hq]; rfl); clear hq; go_wp2_with fail; refine ⟨rfl, ?_⟩; rw [aB.out]; exact ⟨rfl, HW.out.eff.trans aC⟩
 intro u rn v wn hq hv aQ aT; subst hv; have aX : Hid (Q4 (Qk l) = pv7 P rn) := Hi (by rw [HR.out, pv6, hq]; rfl); have aV := Hi (HW.out.call aT aQ); clear hq aQ aT; clear HR HW; have HR := aX; have HW := aV; clear aX aV; have M0 := qaq.made wn 1; go_wp2_with (first | (refine Zi rfl (.tmp 55) _ _ rfl wn _ 0 1 [] [99, 104, 97, 114, 116, 101, 114] 1 rfl rfl rfl rfl (by decide) (by decide) (by decide) (by assumption) ?_; intro cI M1; simp only [List.cons_append, List.nil_append] at M1) | (refine Zi rfl (.tmp 55) _ _ rfl wn _ 1 1 [[99, 104, 97, 114, 116, 101, 114]] [115, 116, 97, 116, 117, 116, 101] 2 rfl rfl rfl rfl (by decide) (by decide) (by decide) (by assumption) ?_; intro cH M2; simp only [List.cons_append, List.nil_append] at M2) | (refine Zi rfl (.tmp 55) _ _ rfl wn _ 2 1 [[99, 104, 97, 114, 116, 101, 114], [115, 116, 97, 116, 117, 116, 101]] [111, 114, 100, 101, 114] 3 rfl rfl rfl rfl (by decide) (by decide) (by decide) (by assumption) ?_; intro cG M3; simp only [List.cons_append, List.nil_append] at M3) | (refine Zi rfl (.tmp 55) _ _ rfl wn _ 3 1 [[99, 104, 97, 114, 116, 101, 114], [115, 116, 97, 116, 117, 116, 101], [111, 114, 100, 101, 114]] [114, 117, 108, 101] 4 rfl rfl rfl rfl (by decide) (by decide) (by decide) (by assumption) ?_; intro cF M4; simp only [List.cons_append, List.nil_append] at M4))
 have bD := Hi (HW.out.below M4.bel); refine Qq (Ha [[99, 104, 97, 114, 116, 101, 114], [115, 116, 97, 116, 117, 116, 101], [111, 114, 100, 101, 114], [114, 117, 108, 101]] (by decide) 1 _ 4 p fin ts rn _ bD.out.ps M4.own) ?_ ?_
 case refine_2 =>
  intro c s wE hq aC; have aB : Hid (Q4 (Qk l) = .error (c, s)) := Hi (by rw [HR.out, pv7, hq]; rfl); clear hq; go_wp2_with fail; refine ⟨rfl, ?_⟩; rw [aB.out]; exact ⟨rfl, bD.out.eff.trans aC⟩
 intro kC rC vC wC hq hv bR bU; subst hv; have bE := Hi (bD.out.call bU bR); have bF : Hid (Q4 (Qk l) = pv8 { P with rank := 1 + kC } rC) := Hi (by rw [HR.out, pv7, hq]; rfl); obtain ⟨v1, e1, g1⟩ := bE.out.cells 1 (by decide); have dl := bE.out.room; clear hq bR bU M0 M1 M2 M3 M4 bD; go_wp2_with fail; have aG := Hi (bE.out.setRank (1 + kC)); clear HR HW bE; generalize ({ P with rank := 1 + kC } : Qf) = P2 at aG bF; refine Qq (Km p fin ts rC _ aG.out.ps) ?_ ?_
 case refine_2 =>
  intro c s wE hq aC; have aB : Hid (Q4 (Qk l) = .error (c, s)) := Hi (by rw [bF.out, pv8, hq]; rfl); clear hq; go_wp2_with fail; refine ⟨rfl, ?_⟩; rw [aB.out]; exact ⟨rfl, aG.out.eff.trans aC⟩
 intro sN rN vN wN hq hv aR aU; obtain ⟨tN, rfl, rfl⟩ := hv; have aM := Hi (aG.out.call aU aR); have aY : Hid (Q4 (Qk l) = pv9 { P2 with id := tN.text } rN) := Hi (by rw [bF.out, pv8, hq]; rfl); simp only [Tok.agg]; obtain ⟨v0, e0, g0⟩ := aM.out.cells 0 (by decide); have dl := aM.out.room; clear hq aR aU e1 g1; go_wp2_with fail; have bC := Hi (aM.out.setId tN.text); clear bF aG aM; generalize ({ P2 with id := tN.text } : Qf) = P3 at bC aY; refine Qq (Xk [93] p fin ts rN _ bC.out.ps) ?_ ?_
 case refine_2 =>
  intro c s wE hq aC; have aB : Hid (Q4 (Qk l) = .error (c, s)) := Hi (by rw [aY.out, pv9, hq]; rfl); clear hq; go_wp2_with fail; refine ⟨rfl, ?_⟩; rw [aB.out]; exact ⟨rfl, bC.out.eff.trans aC⟩
 intro u r9 v9 w9 hq hv bS bV; subst hv; have bW : Hid (Q4 (Qk l) = pvE P3 r9) := Hi (by rw [aY.out, pv9, hq]; rfl); have bJ := Hi (bC.out.call bV bS); clear hq bS bV aY bC e0 g0; obtain ⟨A9, c9, uT, hh, hu, bY, -⟩ := bJ.out.ps.is; have c0 := cOb (o := 0) hh rfl; have c1 := cOb (o := 1) hh rfl; have aS := lHp hh; have aO : ts.length = uT.length + r9.length := by rw [hu, List.length_append]
 clear hh bY hu; cases r9 with
 | cons t r =>
   simp only [List.length_cons] at aO; have y1 : decide ((uT.length : Int) < (ts.length : Int)) = true := by simp; omega
   have y2 : (uT.length : Int) < (ts.length : Int) := by omega
   have aB : Hid (Q4 (Qk l) = .error (Z1 (t :: r), t :: r)) := bW; clear aO; go_upto_region 22 with fail; refine Je (by kernel_rfl) (by as_aux_lemma => kernel_rfl) ?_
   repeat (go_big_quiet_step (fail))
   refine wpQuiet_nil ?_; rintro _ ⟨y, rfl⟩; have aW := Hi (bJ.out.below (gBl w9 y)); generalize World.grew w9 y = wg at aW ⊢; clear c0 c1 aS; go_wp2_with fail; refine (Zq p fin ts _ _ aW.out.ps).mono ?_; rintro e cJ ⟨rfl, bB⟩; have cE := Hi (aW.out.eff.trans (Eff.of_below (p := p) bB)); clear bB; go_wp2_with fail; refine ⟨rfl, ?_⟩; rw [aB.out]; exact ⟨rfl, cE.out⟩
 | nil =>
   simp only [List.length_nil, Nat.add_zero] at aO; have y1 : decide ((uT.length : Int) < (ts.length : Int)) = false := by simp; omega
   have y2 : ¬ (uT.length : Int) < (ts.length : Int) := by omega
   clear aO; go_upto_region 22 with fail; refine Je (by kernel_rfl) (by as_aux_lemma => kernel_rfl) ?_
   repeat (go_big_quiet_step (fail))
   refine wpQuiet_nil ?_; rintro _ ⟨y, rfl⟩; have aW := Hi (bJ.out.below (gBl w9 y)); generalize World.grew w9 y = wg at aW ⊢; clear c0 c1 aS; obtain ⟨C, cZ, hC⟩ := aW.out.out; have bZ := aW.out.res; have aB : Hid (Q4 (Qk l) = .ok (P3, [])) := bW; have bL := Hi (L1 aW.out hC aB.out); have hl := hC.len
   have ha : Jw C = true := by
    obtain ⟨cc, A, cap, cb, cf, ca, rfl, -, l2, -, l4, l5, l6⟩ := hC; simp only [List.cons_append, List.nil_append, Jw, Xu l2.one, Xu l4.one, Xu l5.one, Value.oneCell', Bool.true_and]; exact qed l6.one
   have bN : C.toArray.size = 23 := by simp [hl]
   have bX := Hi hC; clear hC hl; go_wp2_with fail; rw [J2 _ _ _ _ _ (by rfl) bN ha]; have bO : (wg.setRow w.heap.size C.toArray).blk w.heap.size = some (.cells C.toArray 30 (0, 0)) := Va bZ; have cA := Hi bO; clear bO; go_wp2_with fail; refine bodyPost_ret (v := .agg C.toArray) ?_ rfl bL.out; exact results_cell_row Tryz.results56 _ _ w.heap.size 30 _ (0, 0) _ (by rfl) cA.out Tryz.underlying30 rfl (by rw [bN]; kernel_rfl)
end So
end
set_option maxHeartbeats 4000000
section
open Go.RowKit
def exI (id : Qa) : Zt := ⟨id, 2, 2, [116, 97, 120], 5, .mk 6 [] 0 0 [.mk 3 [97, 103, 101] 6 18 [], .mk 5 [] 0 0 [.mk 4 [112, 111, 111, 114] 0 0 []]], [[112, 50], [112, 51]], .mk 9 [] 0 0 [.mk 3 [] 0 10 [], .mk 4 [111, 49] 0 0 []], .mk 2 [] 0 0 [], .mk 2 [] 0 0 []⟩
theorem Bo (id : Qa) : upP (exP id) = exI id := by
 unfold upP exP exI; simp only [up, ups]; rfl
theorem Ui (fm : Bool) (w : World) (op : Int) (name : Qa) (c n : Int) (hc : fm = false -> c = 0) : RdX fm w (tcX fm op name c n (.slice none 0 0)) (.mk op name c n []) := ⟨none, 0, rfl, lR _, Or.inl rfl⟩
theorem qfg {fm : Bool} {w : World} {b : Nat} {cs : List Value} {t : TreeI} {ty : TypeId} (h : w.heap[b]? = some (.cells cs.toArray ty (0, 0))) (hr : RdX fm w cs t) : Wb fm w b 0 [t] := by
 rw [Wb, Wb]; exact ⟨⟨cs, fun j v hv => cOb h (by simpa using hv), hr⟩, trivial⟩
theorem D1 {fm : Bool} {w : World} {b : Nat} {cs ds : List Value} {t u : TreeI} {ty : TypeId} (h : w.heap[b]? = some (.cells (cs ++ ds).toArray ty (0, 0))) (hr : RdX fm w cs t) (hu : RdX fm w ds u) : Wb fm w b 0 [t, u] := by
 rw [Wb, Wb, Wb]; refine ⟨⟨cs, fun j v hv => ?_, hr⟩, ⟨ds, fun j v hv => ?_, hu⟩, trivial⟩
 · refine cOb h ?_; rw [Nat.zero_add, List.getElem?_toArray, List.getElem?_append_left (List.getElem?_eq_some_iff.1 hv).1]; exact hv
 · refine cOb h ?_; have hl := hr.len; rw [Nat.zero_add, List.getElem?_toArray, <- hl, List.getElem?_append_right (by omega)]; simpa using hv
theorem ex_rd (X : World) (k : Nat) (id : Qa) (h2 : X.heap[k + 1 + 1]? = some (.cells #[.int .i64 4, vs [112, 111, 111, 114], .int .i64 0, .int .i64 0, .slice none 0 0] 24 (0, 0)))
 (h4 : X.heap[k + 1 + 1 + 1 + 1]? = some (.cells #[.int .i64 3, vs [], .int .i64 10, .slice none 0 0, .int .i64 4, vs [111, 49], .int .i64 0, .slice none 0 0] 28 (0, 0)))
 (h6 : X.heap[k + 1 + 1 + 1 + 1 + 1 + 1]? = some (.cells #[.int .i64 3, vs [97, 103, 101], .int .i64 6, .int .i64 18, .slice none 0 0, .int .i64 5, vs [], .int .i64 0, .int .i64 0, .slice (some ⟨k + 1 + 1, 0, none⟩) 1 1] 24 (0, 0)))
 (h7 : X.heap[k + 1 + 1 + 1 + 1 + 1 + 1 + 1]? = some (.cells #[vs [112, 50], vs [112, 51]] 9 (0, 0))) :
 Wo X [vs id, .int .i64 2, .int .i64 2, vs [116, 97, 120], .int .i64 5, .int .i64 6, vs [], .int .i64 0, .int .i64 0, .slice (some ⟨k + 1 + 1 + 1 + 1 + 1 + 1, 0, none⟩) 2 2, .slice (some ⟨k + 1 + 1 + 1 + 1 + 1 + 1 + 1, 0, none⟩) 2 2, .int .i64 9, vs [], .int .i64 0, .slice (some ⟨k + 1 + 1 + 1 + 1, 0, none⟩) 2 2, .int .i64 2, vs [], .int .i64 0, .slice none 0 0, .int .i64 2, vs [], .int .i64 0, .slice none 0 0] (exI id) := by
 refine ⟨tcX true 6 [] 0 0 (.slice (some ⟨k + 1 + 1 + 1 + 1 + 1 + 1, 0, none⟩) 2 2), some ⟨k + 1 + 1 + 1 + 1 + 1 + 1 + 1, 0, none⟩, 2, tcX false 9 [] 0 0 (.slice (some ⟨k + 1 + 1 + 1 + 1, 0, none⟩) 2 2), tcX false 2 [] 0 0 (.slice none 0 0), tcX false 2 [] 0 0 (.slice none 0 0), rfl, lR _, ?_, ?_, ?_, Ui _ _ _ _ _ _ (fun _ => rfl), Ui _ _ _ _ _ _ (fun _ => rfl)⟩
 · exact ⟨_, 2, rfl, lR _, Or.inr ⟨_, 0, rfl, lHp h6, D1 (cs := tcX true 3 [97, 103, 101] 6 18 (.slice none 0 0)) (ds := tcX true 5 [] 0 0 (.slice (some ⟨k + 1 + 1, 0, none⟩) 1 1)) h6 (Ui _ _ _ _ _ _ (fun e => by cases e)) ⟨_, 1, rfl, lR _, Or.inr ⟨_, 0, rfl, lHp h2, qfg (cs := tcX true 4 [112, 111, 111, 114] 0 0 (.slice none 0 0)) h2 (Ui _ _ _ _ _ _ (fun e => by cases e))⟩⟩⟩⟩
 · intro _; refine ⟨_, 0, rfl, lHp h7, fun i x hx j v hv => ?_⟩; cases j with
   | succ j => simp at hv
   | zero =>
     simp at hv; subst hv; refine cOb h7 ?_
     match i, hx with
     | 0, hx => simp [exI] at hx; subst hx; rfl
     | 1, hx => simp [exI] at hx; subst hx; rfl
     | i + 2, hx => simp [exI] at hx
 · exact ⟨_, 2, rfl, lR _, Or.inr ⟨_, 0, rfl, lHp h4, D1 (cs := tcX false 3 [] 0 10 (.slice none 0 0)) (ds := tcX false 4 [111, 49] 0 0 (.slice none 0 0)) h4 (Ui _ _ _ _ _ _ (fun _ => rfl)) (Ui _ _ _ _ _ _ (fun _ => rfl))⟩⟩
set_option maxRecDepth 100000
theorem Fx (w : World) :
 Calls Tryz.prog 22 #[] w fun e w' => ∃ cs : List Value, e = .returned (.agg cs.toArray) /\ Wo w' cs (upP (exP [112, 49])) /\ Below w.heap.size w w' := by
 go_enter Tryz.func22, Tryz.ntmps22
 go_wp2_with fail; rw [J2 _ _ _ _ _ (by rfl) (by rfl) (by rfl)]; go_wp2_with fail; generalize hY : World.setRow _ w.heap.size _ = Y; have f2 : Y.heap[w.heap.size + 1 + 1]? = some (.cells #[.int .i64 4, vs [112, 111, 111, 114], .int .i64 0, .int .i64 0, .slice none 0 0] 24 (0, 0)) := by rw [<- hY, setRow_other _ _ _ _ (by omega)]; repeat (first | exact J4 (by simp) | refine Z8 ?_)
 have f4 : Y.heap[w.heap.size + 1 + 1 + 1 + 1]? = some (.cells #[.int .i64 3, vs [], .int .i64 10, .slice none 0 0, .int .i64 4, vs [111, 49], .int .i64 0, .slice none 0 0] 28 (0, 0)) := by rw [<- hY, setRow_other _ _ _ _ (by omega)]; repeat (first | exact J4 (by simp) | refine Z8 ?_)
 have f6 : Y.heap[w.heap.size + 1 + 1 + 1 + 1 + 1 + 1]? = some (.cells #[.int .i64 3, vs [97, 103, 101], .int .i64 6, .int .i64 18, .slice none 0 0, .int .i64 5, vs [], .int .i64 0, .int .i64 0, .slice (some ⟨w.heap.size + 1 + 1, 0, none⟩) 1 1] 24 (0, 0)) := by rw [<- hY, setRow_other _ _ _ _ (by omega)]; repeat (first | exact J4 (by simp) | refine Z8 ?_)
 have f7 : Y.heap[w.heap.size + 1 + 1 + 1 + 1 + 1 + 1 + 1]? = some (.cells #[vs [112, 50], vs [112, 51]] 9 (0, 0)) := by rw [<- hY, setRow_other _ _ _ _ (by omega)]; repeat (first | exact J4 (by simp) | refine Z8 ?_)
 have f0 : Y.blk w.heap.size = some (.cells #[vs [112, 49], .int .i64 2, .int .i64 2, vs [116, 97, 120], .int .i64 5, .int .i64 6, vs [], .int .i64 0, .int .i64 0, .slice (some ⟨w.heap.size + 1 + 1 + 1 + 1 + 1 + 1, 0, none⟩) 2 2, .slice (some ⟨w.heap.size + 1 + 1 + 1 + 1 + 1 + 1 + 1, 0, none⟩) 2 2, .int .i64 9, vs [], .int .i64 0, .slice (some ⟨w.heap.size + 1 + 1 + 1 + 1, 0, none⟩) 2 2, .int .i64 2, vs [], .int .i64 0, .slice none 0 0, .int .i64 2, vs [], .int .i64 0, .slice none 0 0] 30 (0, 0)) := by
  rw [<- hY]; exact setRow_heap _ _ _ _ _ _ (by repeat (first | exact J4 (by simp) | refine Z8 ?_))
 have fb : Below w.heap.size w Y := by
  rw [<- hY]; refine Xt ?_ (lR _) _
  repeat (first | exact Below.refl _ _ | refine Below.alloc ?_ (by simp; omega) _ | refine Below.alloc ?_ (by simp) _)
 have hr := ex_rd Y w.heap.size [112, 49] f2 f4 f6 f7; clear hY f2 f4 f6 f7; refine bodyPost_ret (v := .agg #[vs [112, 49], .int .i64 2, .int .i64 2, vs [116, 97, 120], .int .i64 5, .int .i64 6, vs [], .int .i64 0, .int .i64 0, .slice (some ⟨w.heap.size + 1 + 1 + 1 + 1 + 1 + 1, 0, none⟩) 2 2, .slice (some ⟨w.heap.size + 1 + 1 + 1 + 1 + 1 + 1 + 1, 0, none⟩) 2 2, .int .i64 9, vs [], .int .i64 0, .slice (some ⟨w.heap.size + 1 + 1 + 1 + 1, 0, none⟩) 2 2, .int .i64 2, vs [], .int .i64 0, .slice none 0 0, .int .i64 2, vs [], .int .i64 0, .slice none 0 0]) (results_cell_row Tryz.results22 _ _ w.heap.size 30 _ (0, 0) _ (by rfl) f0 Tryz.underlying30 rfl (by kernel_rfl)) rfl ⟨_, rfl, ?_, fb⟩; rw [Bo]; exact hr
