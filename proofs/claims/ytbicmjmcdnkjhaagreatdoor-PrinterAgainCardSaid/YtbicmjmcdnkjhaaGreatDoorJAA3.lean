/- one: a condition of commencement; it holds conditions in brackets, so. -/
import Derived.Test.YtbicmjmcdnkjhaaGreatDoorJAA2
import Derived.Laws.EntriesVeiled
import Derived.Lib.ItoaNum
set_option linter.unusedVariables false
set_option linter.unusedSimpArgs false
set_option maxRecDepth 20000
set_option maxHeartbeats 800000
namespace Go.Proofs.YtbicmjmcdnkjhaaGreatDoor
section
open Go.RowKit
def qa3 : List (List UInt8) := [[97, 108, 119, 97, 121, 115], [110, 101, 118, 101, 114], [100, 97, 121], [40], [111, 114, 100, 101, 114], [101, 118, 101, 110, 116], [98, 101, 103, 117, 110], [111, 118, 101, 114]]
theorem Fc {ws : List (List UInt8)} {l r : List Tok} {i : Nat} (h : Q3 ws l = .ok (i, r)) : i < ws.length /\ r.length < l.length := by
 unfold Q3 Jc at h; rcases J9 ws l with ht | ⟨t, r', j, rfl, ht, -, hj⟩
 · rw [ht] at h; cases h
 · rw [ht] at h; cases h; exact ⟨qgi hj, by simp⟩
theorem Ye (ws : List (List UInt8)) (W : Option Addr) (n : Nat) (hn : ws.length = n) (cw : Nat) (p fin : Nat) (l : List Tok) (w : World) (hp : PS w p fin l) (hr : RdS w W ws) (hl : n <= 100) {K : Ending -> World -> Prop}
 (hk : ∀ i r w', Q3 ws l = .ok (i, r) -> i < n -> r.length < l.length -> PS w' p fin r -> Eff p w w' -> K (.returned (.int .i64 i)) w')
 (he : ∀ c s w', Q3 ws l = .error (c, s) -> Eff p w w' -> K (Xg c (Xd fin s)) w') : Calls Tryz.prog 78 #[.pointer (some ⟨p, 0, none⟩), .slice W n cw] w K := by
 subst hn; refine Qq (Xk ws W cw p fin l w hp hr hl) (fun i r v w' hq hv h1 h2 => ?_) he; subst hv; exact hk i r w' hq (Fc hq).1 (Fc hq).2 h1 h2
theorem Wh (n : Nat) (l : List Tok) : X8 (n + 1) l = Qc (Q3 qa3 l) fun i r =>
 match i with
 | 0 => .ok (.mk 1 [] 0 0 [], r)
 | 1 => .ok (.mk 2 [] 0 0 [], r)
 | 2 => Qc (Q6 1000000 r) fun v r' => .ok (.mk 3 [] 0 v [], r')
 | 3 => Qc (orF (X8 n) 8 9 n r) fun f r' => Qc (Q3 [[41]] r') fun _ r'' => .ok (f, r'')
 | k + 4 => Qc (Jb r) fun s r' => .ok (.mk (4 + k) s 0 0 [], r') := rfl
theorem qfl {p fin n : Nat} (hn : n <= 6000) (ih : Xa false 189 p fin n (X8 n)) : Xa false 189 p fin (n + 1) (X8 (n + 1)) := by
 refine ⟨fun l w hp hl => ?_, L7 (n + 1)⟩; have aP := hp.lt; have HC := Hi (N8 (qb4 ih (by omega)) (by omega)); have HP := Hi hp; clear ih hp; go_enter Tryz.func189, Tryz.ntmps189
 go_wp2_with fail; refine Ye qa3 _ 8 rfl 8 p fin l _ (Qi (Qi HP.out _) _) (RdS.new (Qe (by simp))) (by omega) ?_ ?_
 case refine_2 =>
  intro c s w1 hq aW; have HQ := Hi hq; clear hq; go_wp2_with fail; refine ⟨rfl, ?_⟩; rw [show X8 (n + 1) l = .error (c, s) by simp only [Wh, HQ.out, Qc]]; exact ⟨rfl, (Qd p w _).trans ((Qd p _ _).trans aW)⟩
 case refine_1 =>
  intro i r w1 ht hi hr aU aW; have HT := Hi ht; have aR := Hi aU; have he := (Qd p w _).trans ((Qd p _ _).trans aW); have aA := (aW.block w.heap.size (by simp; omega) (by omega)).trans (Qn (Qe rfl)); have aE := Hi aA; have HE := Hi he; clear ht aU aW he aA
  obtain rfl | rfl | rfl | rfl | ⟨k, rfl⟩ : i = 0 \/ i = 1 \/ i = 2 \/ i = 3 \/ ∃ k, i = k + 4 := by
   rcases (by omega : i = 0 \/ i = 1 \/ i = 2 \/ i = 3 \/ 4 <= i) with h | h | h | h | h
   · exact .inl h
   · exact .inr (.inl h)
   · exact .inr (.inr (.inl h))
   · exact .inr (.inr (.inr (.inl h)))
   · exact .inr (.inr (.inr (.inr ⟨i - 4, by omega⟩)))
  · have aA := aE.out; have c0 := cOb (o := 0) aA rfl; have c1 := cOb (o := 1) aA rfl; have c2 := cOb (o := 2) aA rfl; have c3 := cOb (o := 3) aA rfl; have f0 := fOb (o := 0) aA; have f1 := fOb (o := 1) aA; have f2 := fOb (o := 2) aA; have f3 := fOb (o := 3) aA; have dl := lHp aA; clear aA; go_wp2_with fail; refine bodyPost_ret (v := .agg (tcs false 1 [] 0 0 (.slice none 0 0)).toArray) (by simp [results, Tryz.results189, go_sem, tcs, *]) rfl ?_; exact Wm (lR _) (Qg.leaf 1 [] 0 0 none 0) aR.out HE.out ((((Off.refl w.heap.size w1).set (o := 0) (.int .i64 (1 : Nat))).set (o := 1) (vs [])).set (o := 2) (.int .i64 (0 : Nat)) |>.set (o := 3) (.slice none 0 0)) aP (show X8 (n + 1) l = .ok (.mk 1 [] 0 0 [], r) by simp only [Wh, HT.out, Qc])
  · have aA := aE.out; have c0 := cOb (o := 0) aA rfl; have c1 := cOb (o := 1) aA rfl; have c2 := cOb (o := 2) aA rfl; have c3 := cOb (o := 3) aA rfl; have f0 := fOb (o := 0) aA; have f1 := fOb (o := 1) aA; have f2 := fOb (o := 2) aA; have f3 := fOb (o := 3) aA; have dl := lHp aA; clear aA; go_wp2_with fail; refine bodyPost_ret (v := .agg (tcs false 2 [] 0 0 (.slice none 0 0)).toArray) (by simp [results, Tryz.results189, go_sem, tcs, *]) rfl ?_; exact Wm (lR _) (Qg.leaf 2 [] 0 0 none 0) aR.out HE.out ((((Off.refl w.heap.size w1).set (o := 0) (.int .i64 (2 : Nat))).set (o := 1) (vs [])).set (o := 2) (.int .i64 (0 : Nat)) |>.set (o := 3) (.slice none 0 0)) aP (show X8 (n + 1) l = .ok (.mk 2 [] 0 0 [], r) by simp only [Wh, HT.out, Qc])
  · go_wp2_with fail; refine Qq (Gz 1000000 p fin r _ aR.out) ?_ ?_
    case refine_2 =>
     intro c s w2 hq aB; have HQ := Hi hq; clear hq; go_wp2_with fail; refine ⟨rfl, ?_⟩; rw [show X8 (n + 1) l = .error (c, s) by simp only [Wh, HT.out, HQ.out, Qc]]; exact ⟨rfl, HE.out.trans aB⟩
    case refine_1 =>
     intro m r2 v w2 hq hv aK aB; subst hv; have HQ := Hi hq; have aX := Hi aK; have aJ := Hi (HE.out.trans aB); have aA := (aB.block w.heap.size (lHp aE.out) (by omega)).trans aE.out; have c0 := cOb (o := 0) aA rfl; have c1 := cOb (o := 1) aA rfl; have c2 := cOb (o := 2) aA rfl; have c3 := cOb (o := 3) aA rfl; have f0 := fOb (o := 0) aA; have f1 := fOb (o := 1) aA; have f2 := fOb (o := 2) aA; have f3 := fOb (o := 3) aA; have dl := lHp aA; clear hq aK aB aA; go_wp2_with fail; refine bodyPost_ret (v := .agg (tcs false 3 [] 0 m (.slice none 0 0)).toArray) (by simp [results, Tryz.results189, go_sem, tcs, *]) rfl ?_; exact Wm (lR _) (Qg.leaf 3 [] 0 m none 0) aX.out aJ.out ((((Off.refl w.heap.size w2).set (o := 0) (.int .i64 (3 : Nat))).set (o := 1) (vs [])).set (o := 2) (.int .i64 m) |>.set (o := 3) (.slice none 0 0)) aP (show X8 (n + 1) l = .ok (.mk 3 [] 0 m [], r2) by simp only [Wh, HT.out, HQ.out, Qc])
  · go_wp2_with fail; refine HC.out.call aR.out (by omega) ?_ ?_
    case refine_2 =>
     intro c s w2 hq aB; have HQ := Hi hq; clear hq; go_wp2_with fail; refine ⟨rfl, ?_⟩; rw [show X8 (n + 1) l = .error (c, s) by simp only [Wh, HT.out, orF, Y7, HQ.out, Qc]]; exact ⟨rfl, HE.out.trans aB⟩
    case refine_1 =>
     intro t r2 v w2 hq hv aK aB eX; obtain ⟨cs, rfl, aF⟩ := hv; have bG := Hi aF; obtain ⟨o1, name, cm, m, ks⟩ := t; obtain ⟨A, cap, rfl, -, -⟩ := aF; simp only [tcs]; have HQ := Hi hq; have aX := Hi aK; have aJ := Hi (HE.out.trans aB); have hs := aB.size; have aA := (aB.block w.heap.size (lHp aE.out) (by omega)).trans aE.out; have z2 := lHp aA; have cQ := Hi aA; clear hq aK aB aA; go_wp2_with fail; refine Ye [[41]] _ 1 rfl 1 p fin r2 _ (Qi (Qi aX.out _) _) (RdS.new (Qe (by simp))) (by simp) ?_ ?_
     case refine_2 =>
      intro c s w3 cG aV; have dL := Hi cG; clear cG; go_wp2_with fail; refine ⟨rfl, ?_⟩; rw [show X8 (n + 1) l = .error (c, s) by simp only [Wh, HT.out, orF, Y7, HQ.out, dL.out, Qc]]; exact ⟨rfl, aJ.out.trans ((Qd p _ _).trans ((Qd p _ _).trans aV))⟩
     case refine_1 =>
      intro i3 r3 w3 cG eZ eJ dY aV; have dL := Hi cG; have dN := Hi dY; have h1 : ¬ w.heap.size = w2.heap.size := (by omega)
      have h2 : ¬ w2.heap.size = w.heap.size := (by omega)
      have hf := (aV.block w2.heap.size (by simp; omega) (by omega)).trans (Qn (Qe rfl)); have aA := (aV.block w.heap.size (by simp; omega) (by omega)).trans (Qn (Qn cQ.out)); have bP := Hi (aJ.out.trans ((Qd p _ _).trans ((Qd p _ _).trans aV))); have dU := lHp aE.out; have dK := Hi ((bG.out.eff (Qd p _ (.cells #[.int .i64 o1, vs name, .int .i64 m, .slice A ks.length cap] 28 (0, 0))) (by omega)).eff ((Qd p _ _).trans aV) (by omega)); have e0 := cOb (o := 0) hf rfl; have e1 := cOb (o := 1) hf rfl; have e2 := cOb (o := 2) hf rfl; have e3 := cOb (o := 3) hf rfl; have fl := lHp hf; have c0 := cOb (o := 0) aA rfl; have c1 := cOb (o := 1) aA rfl; have c2 := cOb (o := 2) aA rfl; have c3 := cOb (o := 3) aA rfl; have f0 := fOb (o := 0) aA; have f1 := fOb (o := 1) aA; have f2 := fOb (o := 2) aA; have f3 := fOb (o := 3) aA; have dl := lHp aA; clear cG dY aV hf aA; go_wp2_with fail; refine bodyPost_ret (v := .agg (tcs false o1 name cm m (.slice A ks.length cap)).toArray) (by simp [results, Tryz.results189, go_sem, tcs, *]) rfl ?_; exact Wm (lR _) (dK.out.keep (lR _) (fun b hb _ => ⟨by omega, rfl⟩)) dN.out bP.out ((((Off.refl w.heap.size w3).set (o := 0) (.int .i64 o1)).set (o := 1) (vs name)).set (o := 2) (.int .i64 m) |>.set (o := 3) (.slice A ks.length cap)) aP (show X8 (n + 1) l = .ok (.mk o1 name cm m ks, r3) by simp only [Wh, HT.out, orF, Y7, HQ.out, dL.out, Qc])
  · have y0 : (((k + 4 : Nat) : Int) == 0) = false := by simp; omega
    have y1 : (((k + 4 : Nat) : Int) == 1) = false := by simp; omega
    have y2 : (((k + 4 : Nat) : Int) == 2) = false := by simp; omega
    have y3 : (((k + 4 : Nat) : Int) == 3) = false := by simp; omega
    go_wp2_with fail; refine Qq (Km p fin r _ aR.out) ?_ ?_
    case refine_2 =>
     intro c s w2 hq aB; have HQ := Hi hq; clear hq; go_wp2_with fail; refine ⟨rfl, ?_⟩; rw [show X8 (n + 1) l = .error (c, s) by simp only [Wh, HT.out, HQ.out, Qc]]; exact ⟨rfl, HE.out.trans aB⟩
    case refine_1 =>
     intro s r2 v w2 hq hv aK aB; subst hv; have HQ := Hi hq; have aX := Hi aK; have aJ := Hi (HE.out.trans aB); have aA := (aB.block w.heap.size (lHp aE.out) (by omega)).trans aE.out; have c0 := cOb (o := 0) aA rfl; have c1 := cOb (o := 1) aA rfl; have c2 := cOb (o := 2) aA rfl; have c3 := cOb (o := 3) aA rfl; have f0 := fOb (o := 0) aA; have f1 := fOb (o := 1) aA; have f2 := fOb (o := 2) aA; have f3 := fOb (o := 3) aA; have dl := lHp aA; clear hq aK aB aA; go_wp2_with fail; refine bodyPost_ret (v := .agg (tcs false (4 + k) s 0 0 (.slice none 0 0)).toArray) (by simp [results, Tryz.results189, go_sem, tcs, *]; omega) rfl ?_; exact Wm (lR _) (Qg.leaf (4 + k) s 0 0 none 0) aX.out aJ.out ((((Off.refl w.heap.size w2).set (o := 0) _).set (o := 1) _).set (o := 2) _ |>.set (o := 3) _) aP (show X8 (n + 1) l = .ok (.mk (4 + k) s 0 0 [], r2) by simp only [Wh, HT.out, HQ.out, Qc])
theorem qbb {p fin : Nat} : ∀ n, n <= 6001 -> Xa false 189 p fin n (X8 n)
 | 0, _ => ⟨fun l w _ h => absurd h (Nat.not_lt_zero _), O3⟩
 | n + 1, h => qfl (by omega) (qbb n (by omega))
theorem Sw {p fin : Nat} (n : Nat) (hn : n <= 6001) : Xa false 127 p fin n (Jk n) := N8 (qb4 (qbb n hn) hn) hn
def Siz (P : List Tok -> R Qb) : Prop := ∀ l t r, P l = .ok (t, r) -> t.size + 2 * r.length + 1 <= 2 * l.length
theorem Rq {ws : List (List UInt8)} {l r : List Tok} {i : Nat} (h : Xb ws l = (some i, r)) : r.length + 1 = l.length := by
 rcases J9 ws l with ht | ⟨t, r', j, rfl, ht, -, -⟩
 · rw [ht] at h; cases h
 · rw [ht] at h; cases h; rfl
theorem Gt {ws : List (List UInt8)} {l r : List Tok} (h : Xb ws l = (none, r)) : r = l := by
 rcases J9 ws l with ht | ⟨t, r', j, rfl, ht, -, -⟩
 · rw [ht] at h; cases h; rfl
 · rw [ht] at h; cases h
theorem R7 {l r : List Tok} {s : List UInt8} (h : Jb l = .ok (s, r)) : r.length + 1 = l.length := by
 unfold Jb at h
 split at h
 · cases h
 · split at h
   · cases h; rfl
   · cases h
theorem Pn {m v : Nat} {l r : List Tok} (h : Q6 m l = .ok (v, r)) : r.length + 1 = l.length := by
 unfold Q6 at h
 split at h
 · cases h
 · split at h
   · split at h
     · cases h
     · cases h; rfl
   · cases h
theorem R8 {ws : List (List UInt8)} {l r : List Tok} {i : Nat} (h : Q3 ws l = .ok (i, r)) : r.length + 1 = l.length := by
 unfold Q3 Jc at h; rcases J9 ws l with ht | ⟨t, r', j, rfl, ht, -, hj⟩
 · rw [ht] at h; cases h
 · rw [ht] at h; cases h; rfl
theorem Z7 {α β : Type} {x : R α} {f : α -> List Tok -> R β} {y : β × List Tok} (h : Qc x f = .ok y) : ∃ a r, x = .ok (a, r) /\ f a r = .ok y := by
 cases x with
 | error e => cases h
 | ok v => exact ⟨v.1, v.2, rfl, h⟩
theorem Gj {one : List Tok -> R Qb} (w : List UInt8) (h : Siz one) : ∀ (n : Nat) (l : List Tok) (xs : List Qb) (r : List Tok), severalL one w n l = .ok (xs, r) -> xs ≠ [] /\ sizes xs + 3 * xs.length + 2 * r.length <= 2 * l.length + 2
 | 0, l, xs, r, hx => by cases hx
 | n + 1, l, xs, r, hx => by
   obtain ⟨x, r1, h1, h2⟩ := Z7 hx; have s1 := h _ _ _ h1; unfold Jc at h2; cases ht : Xb [w] r1 with
   | mk a r2 =>
     rw [ht] at h2; cases a with
     | none =>
       cases h2; have := Gt ht; subst this; refine ⟨by simp, ?_⟩; simp [sizes]; omega
     | some i =>
       have s2 := Rq ht; obtain ⟨ys, r3, h3, h4⟩ := Z7 h2; cases h4; have s3 := (Gj w h n _ _ _ h3).2; refine ⟨by simp, ?_⟩; simp only [sizes, List.length_cons]; omega
theorem Tu (op : Nat) {xs : List Qb} (h : xs ≠ []) : (Gm op xs).size + 1 <= sizes xs + 3 * xs.length - 2 := by
 cases xs with
 | nil => exact absurd rfl h
 | cons x ys =>
   cases ys with
   | nil => simp [Gm, sizes]
   | cons y zs =>
     show (Qb.mk op [] 0 0 (x :: y :: zs)).size + 1 <= _
     simp only [Qb.size, sizes, List.length_cons]; omega
theorem Siz.severalF {one : List Tok -> R Qb} (w : List UInt8) (op n : Nat) (h : Siz one) : Siz (severalF one w op n) := by
 intro l t r ht; obtain ⟨xs, r1, h1, h2⟩ := Z7 ht; cases h2; obtain ⟨cI, hs⟩ := Gj w h n l xs _ h1; have := Tu op cI; have : 0 < xs.length := List.length_pos_iff.2 cI; omega
theorem Bt : ∀ n, Siz (Jj n)
 | 0 => fun l t r h => by cases h
 | n + 1 => fun l t r h => by
   have ih := Bt n; unfold Jj Jc at h; cases ht : Xb [[110, 111, 116], [40], [116, 114, 117, 101], [102, 97, 108, 115, 101]] l with
   | mk a r1 =>
     rw [ht] at h; cases a with
     | none =>
       have := Gt ht; subst this; obtain ⟨s, r2, h1, h2⟩ := Z7 h; have s1 := R7 h1; cases cY : Xb [[61], [33, 61], [60], [60, 61], [62], [62, 61]] r2 with
       | mk b r3 =>
         rw [cY] at h2; cases b with
         | none =>
           have := Gt cY; subst this; cases h2; simp [Qb.size, sizes]; omega
         | some c =>
           have s2 := Rq cY; obtain ⟨v, r4, h3, h4⟩ := Z7 h2; cases h4; have s3 := Pn h3; simp [Qb.size, sizes]; omega
     | some i =>
       have s1 := Rq ht
       match i, h with
       | 0, h =>
         obtain ⟨f, r2, h1, h2⟩ := Z7 h; cases h2; have := ih _ _ _ h1; simp only [Qb.size, sizes]; omega
       | 1, h =>
         obtain ⟨f, r2, h1, h2⟩ := Z7 h; obtain ⟨j, r3, h3, h4⟩ := Z7 h2; cases h4; have := (Siz.severalF [111, 114] 7 n (Siz.severalF [97, 110, 100] 6 n ih)) _ _ _ h1; have := R8 h3; omega
       | 2, h => cases h; simp [Qb.size, sizes]; omega
       | k + 3, h => cases h; simp [Qb.size, sizes]; omega
theorem D4 : ∀ n, Siz (X8 n)
 | 0 => fun l t r h => by cases h
 | n + 1 => fun l t r h => by
   have ih := D4 n; rw [Wh] at h; obtain ⟨i, r1, h0, h⟩ := Z7 h; have s1 := R8 h0
   match i, h with
   | 0, h => cases h; simp [Qb.size, sizes]; omega
   | 1, h => cases h; simp [Qb.size, sizes]; omega
   | 2, h =>
     obtain ⟨v, r2, h1, h2⟩ := Z7 h; cases h2; have := Pn h1; simp [Qb.size, sizes]; omega
   | 3, h =>
     obtain ⟨f, r2, h1, h2⟩ := Z7 h; obtain ⟨j, r3, h3, h4⟩ := Z7 h2; cases h4; have := (Siz.severalF [111, 114] 9 n (Siz.severalF [97, 110, 100] 8 n ih)) _ _ _ h1; have := R8 h3; omega
   | k + 4, h =>
     obtain ⟨s, r2, h1, h2⟩ := Z7 h; cases h2; have := R7 h1; simp [Qb.size, sizes]; omega
theorem qaf (n : Nat) : Siz (Rl n) := Siz.severalF _ _ _ (Siz.severalF _ _ _ (Bt n))
theorem Ds (n : Nat) : Siz (Jk n) := Siz.severalF _ _ _ (Siz.severalF _ _ _ (D4 n))
theorem Ue (l : List Qb) (t : Qb) : sizes (l ++ [t]) = sizes l + t.size := by
 induction l with
 | nil => simp [sizes]
 | cons x l ih => simp only [List.cons_append, sizes, ih]; omega
theorem qaa (l : List Qb) (t : Qb) : deeps (l ++ [t]) = max (deeps l) t.deep := by
 induction l with
 | nil => simp [deeps]
 | cons x l ih => simp only [List.cons_append, deeps, ih]; omega
mutual
theorem Ic : ∀ t : Qb, t.deep <= t.size
 | .mk op name cmp n ks => by
   have := Xl ks; simp only [Qb.deep, Qb.size]; omega
theorem Xl : ∀ l : List Qb, deeps l <= sizes l
 | [] => lR _
 | t :: r => by
   have := Ic t; have := Xl r; simp only [deeps, sizes]; omega
end
theorem qfa (t : Qb) : 1 <= t.size := by cases t; simp [Qb.size]
theorem U4 : ∀ l : List Qb, l.length <= sizes l
 | [] => lR _
 | t :: r => by
   have := U4 r; have := qfa t; simp only [sizes, List.length_cons]; omega
theorem Ow {α : Type} {l : List α} {k : Nat} {x : α} (h : l[k]? = some x) : l.take (k + 1) = l.take k ++ [x] := by
 rw [List.take_add_one, h]; rfl
theorem Ls {l : List Qb} {k : Nat} {t : Qb} (h : l[k]? = some t) : sizes (l.take (k + 1)) = sizes (l.take k) + t.size := by rw [Ow h, Ue]
theorem M9 {l : List Qb} {k : Nat} {t : Qb} (h : l[k]? = some t) : deeps (l.take (k + 1)) = max (deeps (l.take k)) t.deep := by rw [Ow h, qaa]
theorem W8 (l : List Qb) (k : Nat) : sizes (l.take k) <= sizes l := by
 induction l generalizing k with
 | nil => simp [sizes]
 | cons x l ih =>
   cases k with
   | zero => simp [sizes]
   | succ k => simp only [List.take_succ_cons, sizes]; have := ih k; omega
theorem X1.get {fm : Bool} {S : Nat -> Prop} {w : World} {b : Nat} : ∀ {ks : List Qb} {o k : Nat} {t : Qb}, X1 fm S w b o ks -> ks[k]? = some t -> ∃ cs : List Value, (∀ j v, cs[j]? = some v -> w.cell? ⟨b, o + k * tsz fm + j, none⟩ = some v) /\ Qg fm S w cs t
 | [], o, k, t, h, hk => by simp at hk
 | x :: ks, o, 0, t, h, hk => by
   simp at hk; subst hk; obtain ⟨⟨cs, h1, h2⟩, -⟩ := h; exact ⟨cs, fun j v hv => by rw [Nat.zero_mul, Nat.add_zero]; exact h1 j v hv, h2⟩
 | x :: ks, o, k + 1, t, h, hk => by
   obtain ⟨cs, h1, h2⟩ := X1.get (k := k) h.2 (by simpa using hk); refine ⟨cs, fun j v hv => ?_, h2⟩; have := h1 j v hv; rwa [show o + (k + 1) * tsz fm + j = o + tsz fm + k * tsz fm + j by rw [Nat.add_mul]; omega]
end
set_option maxRecDepth 20000
set_option maxHeartbeats 800000
section
open Go.RowKit
theorem Po (op : Nat) (name : List UInt8) (cm m : Nat) (ks : List Qb) (s : Nat) : s + (Qb.mk op name cm m ks).size = s + 1 + sizes ks := by simp only [Qb.size]; omega
theorem Pp (op : Nat) (name : List UInt8) (cm m : Nat) (ks : List Qb) : Ending.returned (.int .i64 ((deeps ks : Int) + 1)) = .returned (.int .i64 ((Qb.mk op name cm m ks).deep : Int)) := by simp [Qb.deep]
theorem Fe (a b : Nat) : max (a : Int) (b : Int) = ((max a b : Nat) : Int) := by omega
theorem Li {k : Nat} (h : k < 9000000) : wrap64 ((k : Int) + 1) = ((k + 1 : Nat) : Int) := by unfold wrap64; omega
structure qca (fm : Bool) (f : FuncId) : Prop where
 go : ∀ op name cmp n A m c w, Calls Tryz.prog f #[.agg (tcs fm op name cmp n (.slice A m c)).toArray] w fun e w' => e = .returned (.slice A m c) /\ Below w.heap.size w w'
structure Im (w : World) (fk fd : FuncId) (sb kb db s : Nat) : Prop where
 size : ∃ ty, w.heap[sb]? = some (.cells #[.int .i64 s] ty (0, 0))
 kids : ∃ ty, w.heap[kb]? = some (.cells #[.func (.func fk) #[] #[]] ty (0, 0))
 deep : ∃ ty, w.heap[db]? = some (.cells #[.func (.func fd) #[] #[.pointer (some ⟨sb, 0, none⟩), .pointer (some ⟨kb, 0, none⟩), .pointer (some ⟨db, 0, none⟩)]] ty (0, 0))
 nk : kb ≠ sb
 nd : db ≠ sb
theorem Im.grow {w w' : World} {fk fd : FuncId} {sb kb db s : Nat} (h : Im w fk fd sb kb db s) (hb : Below w.heap.size w w') : Im w' fk fd sb kb db s := by
 obtain ⟨⟨t1, h1⟩, ⟨t2, h2⟩, ⟨t3, h3⟩, h4, h5⟩ := h; exact ⟨⟨t1, (hb.block _ (lHp h1)).trans h1⟩, ⟨t2, (hb.block _ (lHp h2)).trans h2⟩, ⟨t3, (hb.block _ (lHp h3)).trans h3⟩, h4, h5⟩
theorem Im.put {w : World} {fk fd : FuncId} {sb kb db s : Nat} (h : Im w fk fd sb kb db s) {i : Int} {v : Nat} (hi : i = v) : Im (w.setCell ⟨sb, 0, none⟩ (.int .i64 i)) fk fd sb kb db v := by
 subst hi; obtain ⟨⟨t1, h1⟩, ⟨t2, h2⟩, ⟨t3, h3⟩, h4, h5⟩ := h; exact ⟨⟨t1, rSc h1⟩, ⟨t2, (Below.heap_setCell _ _ _ _ (by simpa using h4)).trans h2⟩, ⟨t3, (Below.heap_setCell _ _ _ _ (by simpa using h5)).trans h3⟩, h4, h5⟩
def Meas (sb : Nat) (w : World) (fk fd : FuncId) (kb db s : Nat) (t : Qb) (e : Ending) (w' : World) : Prop :=
 e = .returned (.int .i64 t.deep) /\ Im w' fk fd sb kb db (s + t.size) /\ Eff sb w w'
theorem qkk (fk : FuncId) (hk : qca true fk) (cN : Xo fk) (sb kb db : Nat) : ∀ (N : Nat) (t : Qb) (s : Nat) (cs : List Value) (w : World), t.size <= N -> t.size + s <= 1000000 -> Im w fk 121 sb kb db s -> Qg true (fun k => k ≠ sb) w cs t ->
 Calls Tryz.prog 121 #[.agg cs.toArray, .pointer (some ⟨sb, 0, none⟩), .pointer (some ⟨kb, 0, none⟩), .pointer (some ⟨db, 0, none⟩)] w (Meas sb w fk 121 kb db s t) := by
 intro N
 induction N with
 | zero =>
   intro t s cs w hN; cases t; simp [Qb.size] at hN
 | succ N ih =>
   intro t s cs w hN hs bD aF; have IH := Hi ih; have HK := Hi hk; have dQ := Hi cN; have dS := Hi bD; have bG := Hi aF; obtain ⟨op, name, cm, m, ks⟩ := t; obtain ⟨A, cap, rfl, bK, aO⟩ := aF; have bH := Hi aO; simp only [Qb.size] at hN hs; simp only [tcs]; obtain ⟨⟨t1, aC⟩, ⟨t2, aM⟩, ⟨t3, aQ⟩, n1, n2⟩ := bD; have c1 := cOb (o := 0) aC rfl; have g1 := fOb (o := 0) aC; have l1 := lHp aC; have c2 := cOb (o := 0) aM rfl; have l2 := lHp aM; have c3 := cOb (o := 0) aQ rfl; have l3 := lHp aQ; clear ih hk cN aO aC aM aQ bK; go_enter Tryz.func121, Tryz.ntmps121
   go_wp2_with fail; have cP := Hi ((dS.out.put (i := (s : Int) + 1) (v := s + 1) (by simp)).grow ((Below.refl _ _).alloc (lR _) (.cells (tcs true op name cm m (.slice A ks.length cap)).toArray 24 (0, 0)))); have bI := Hi (((Eff.refl sb w).setCell ⟨sb, 0, none⟩ (.inl rfl) (.int .i64 ((s : Int) + 1))).alloc (.cells (tcs true op name cm m (.slice A ks.length cap)).toArray 24 (0, 0))); rw [dQ.out, Oper.upon_enter]; refine (HK.out.go op name cm m A ks.length cap _).mono ?_; rintro e w2 ⟨rfl, aM⟩; have cO := Hi (cP.out.grow aM); have aJ := Hi (bI.out.trans (Eff.of_below aM)); clear c1 g1 c2 c3 aM cP bI; go_wp2_with fail; go_loopw [6, 15] (fun v6 bQ wr => ∃ k : Nat, k <= ks.length /\ bQ = .int .i64 k /\ v6 = .int .i64 (deeps (ks.take k)) /\ Im wr fk 121 sb kb db (s + 1 + sizes (ks.take k)) /\ Eff sb w wr) (fun v6 bQ _ => ks.length - (intOf bQ).toNat)
   case atStart => exact ⟨0, Nat.zero_le _, rfl, rfl, cO.out, aJ.out⟩
   case round =>
    obtain ⟨k, eN, rfl, rfl, bD, bJ⟩ := hrel; have aN := W8 ks k; have eR := Xl (ks.take k); have aS := Hi bD; have aI := Hi bJ; obtain ⟨⟨t1, aC⟩, ⟨t2, aM⟩, ⟨t3, aQ⟩, -, -⟩ := bD; have c1 := cOb (o := 0) aC rfl; have eF := lHp aC; have c3 := cOb (o := 0) aQ rfl; have eD := lHp aQ; clear aC aM aQ bJ cO aJ
    by_cases aD : k < ks.length
    · obtain ⟨t, ht⟩ := gLt aD; have HT := Hi ht; have cE := Ls ht; have bR := W8 ks (k + 1); have eS := Ic t; obtain h0 | ⟨b, off, rfl, dD, dE, cJ⟩ := bH.out
      · rw [h0] at aD; simp at aD
      obtain ⟨cs, aZ, aF⟩ := (cJ.keep aI.out.size (fun b hb aD => ⟨hb, aI.out.block b aD hb⟩) (aI.out.block b dE dD)).get ht; have bV := Hi aF; obtain ⟨op', nm', cm', m', ks'⟩ := t; obtain ⟨A', cap', rfl, -, -⟩ := aF; have e0 : wr.cell? ⟨b, off + k * 5, none⟩ = some (.int .i64 op') := aZ 0 _ rfl; have e1 : wr.cell? ⟨b, off + k * 5 + 1, none⟩ = some (vs nm') := aZ 1 _ rfl; have e2 : wr.cell? ⟨b, off + k * 5 + 2, none⟩ = some (.int .i64 cm') := aZ 2 _ rfl; have e3 : wr.cell? ⟨b, off + k * 5 + 3, none⟩ = some (.int .i64 m') := aZ 3 _ rfl; have e4 : wr.cell? ⟨b, off + k * 5 + 4, none⟩ = some (.slice A' ks'.length cap') := aZ 4 _ rfl; have eO : (k : Int) < ks.length := (by omega)
      clear ht cJ aZ; go_wp2_with fail; refine (IH.out (.mk op' nm' cm' m' ks') (s + 1 + sizes (ks.take k)) (tcs true op' nm' cm' m' (.slice A' ks'.length cap')) _ (by omega) (by omega) (aS.out.grow ((Below.refl _ _).alloc (lR _) _)) (bV.out.keep (by simp) (fun b hb aD => ⟨hb, Below.heap_alloc _ _ _ aD⟩))).mono ?_; rintro e w3 ⟨rfl, bC, aV⟩; have bZ := Hi bC; have bP := Hi aV; have dJ := Hi cE; have dR := Hi (M9 HT.out); clear bC aV cE aN bR c1 c3; go_wp2_with fail; have eL := U4 ks; have cX := Li (k := k) (by omega); have dB : k + 1 <= ks.length := aD; have dA : (Value.int .i64 (max (deeps (ks.take k) : Int) ((Qb.mk op' nm' cm' m' ks').deep : Int))) = .int .i64 (deeps (ks.take (k + 1)) : Int) := by rw [dR.out, Fe]
      rw [cX]; refine ⟨⟨k + 1, dB, rfl, dA, ?_, ?_⟩, ?_⟩
      · rw [dJ.out, <- Nat.add_assoc (s + 1)]; exact bZ.out
      · exact aI.out.trans ((Qd sb _ _).trans bP.out)
      · exact Nat.sub_lt_sub_left aD (Nat.lt_succ_self k)
    · have : k = ks.length := by omega
      subst this; have eT := Xl ks; simp only [List.take_length] at aS ⊢; go_wp2_with fail; go_ret; exact ⟨Pp op name cm m ks, by rw [Po]; exact aS.out, aI.out⟩
theorem qkj (fk : FuncId) (hk : qca false fk) (cN : Xo fk) (sb kb db : Nat) : ∀ (N : Nat) (t : Qb) (s : Nat) (cs : List Value) (w : World), t.size <= N -> t.size + s <= 1000000 -> Im w fk 165 sb kb db s -> Qg false (fun k => k ≠ sb) w cs t ->
 Calls Tryz.prog 165 #[.agg cs.toArray, .pointer (some ⟨sb, 0, none⟩), .pointer (some ⟨kb, 0, none⟩), .pointer (some ⟨db, 0, none⟩)] w (Meas sb w fk 165 kb db s t) := by
 intro N
 induction N with
 | zero =>
   intro t s cs w hN; cases t; simp [Qb.size] at hN
 | succ N ih =>
   intro t s cs w hN hs bD aF; have IH := Hi ih; have HK := Hi hk; have dQ := Hi cN; have dS := Hi bD; have bG := Hi aF; obtain ⟨op, name, cm, m, ks⟩ := t; obtain ⟨A, cap, rfl, bK, aO⟩ := aF; have bH := Hi aO; simp only [Qb.size] at hN hs; simp only [tcs]; obtain ⟨⟨t1, aC⟩, ⟨t2, aM⟩, ⟨t3, aQ⟩, n1, n2⟩ := bD; have c1 := cOb (o := 0) aC rfl; have g1 := fOb (o := 0) aC; have l1 := lHp aC; have c2 := cOb (o := 0) aM rfl; have l2 := lHp aM; have c3 := cOb (o := 0) aQ rfl; have l3 := lHp aQ; clear ih hk cN aO aC aM aQ bK; go_enter Tryz.func165, Tryz.ntmps165
   go_wp2_with fail; have cP := Hi ((dS.out.put (i := (s : Int) + 1) (v := s + 1) (by simp)).grow ((Below.refl _ _).alloc (lR _) (.cells (tcs false op name cm m (.slice A ks.length cap)).toArray 28 (0, 0)))); have bI := Hi (((Eff.refl sb w).setCell ⟨sb, 0, none⟩ (.inl rfl) (.int .i64 ((s : Int) + 1))).alloc (.cells (tcs false op name cm m (.slice A ks.length cap)).toArray 28 (0, 0))); rw [dQ.out, Oper.upon_enter]; refine (HK.out.go op name cm m A ks.length cap _).mono ?_; rintro e w2 ⟨rfl, aM⟩; have cO := Hi (cP.out.grow aM); have aJ := Hi (bI.out.trans (Eff.of_below aM)); clear c1 g1 c2 c3 aM cP bI; go_wp2_with fail; go_loopw [6, 15] (fun v6 bQ wr => ∃ k : Nat, k <= ks.length /\ bQ = .int .i64 k /\ v6 = .int .i64 (deeps (ks.take k)) /\ Im wr fk 165 sb kb db (s + 1 + sizes (ks.take k)) /\ Eff sb w wr) (fun v6 bQ _ => ks.length - (intOf bQ).toNat)
   case atStart => exact ⟨0, Nat.zero_le _, rfl, rfl, cO.out, aJ.out⟩
   case round =>
    obtain ⟨k, eN, rfl, rfl, bD, bJ⟩ := hrel; have aN := W8 ks k; have eR := Xl (ks.take k); have aS := Hi bD; have aI := Hi bJ; obtain ⟨⟨t1, aC⟩, ⟨t2, aM⟩, ⟨t3, aQ⟩, -, -⟩ := bD; have c1 := cOb (o := 0) aC rfl; have eF := lHp aC; have c3 := cOb (o := 0) aQ rfl; have eD := lHp aQ; clear aC aM aQ bJ cO aJ
    by_cases aD : k < ks.length
    · obtain ⟨t, ht⟩ := gLt aD; have HT := Hi ht; have cE := Ls ht; have bR := W8 ks (k + 1); have eS := Ic t; obtain h0 | ⟨b, off, rfl, dD, dE, cJ⟩ := bH.out
      · rw [h0] at aD; simp at aD
      obtain ⟨cs, aZ, aF⟩ := (cJ.keep aI.out.size (fun b hb aD => ⟨hb, aI.out.block b aD hb⟩) (aI.out.block b dE dD)).get ht; have bV := Hi aF; obtain ⟨op', nm', cm', m', ks'⟩ := t; obtain ⟨A', cap', rfl, -, -⟩ := aF; have e0 : wr.cell? ⟨b, off + k * 4, none⟩ = some (.int .i64 op') := aZ 0 _ rfl; have e1 : wr.cell? ⟨b, off + k * 4 + 1, none⟩ = some (vs nm') := aZ 1 _ rfl; have e2 : wr.cell? ⟨b, off + k * 4 + 2, none⟩ = some (.int .i64 m') := aZ 2 _ rfl; have e3 : wr.cell? ⟨b, off + k * 4 + 3, none⟩ = some (.slice A' ks'.length cap') := aZ 3 _ rfl; have eO : (k : Int) < ks.length := (by omega)
      clear ht cJ aZ; go_wp2_with fail; refine (IH.out (.mk op' nm' cm' m' ks') (s + 1 + sizes (ks.take k)) (tcs false op' nm' cm' m' (.slice A' ks'.length cap')) _ (by omega) (by omega) (aS.out.grow ((Below.refl _ _).alloc (lR _) _)) (bV.out.keep (by simp) (fun b hb aD => ⟨hb, Below.heap_alloc _ _ _ aD⟩))).mono ?_; rintro e w3 ⟨rfl, bC, aV⟩; have bZ := Hi bC; have bP := Hi aV; have dJ := Hi cE; have dR := Hi (M9 HT.out); clear bC aV cE aN bR c1 c3; go_wp2_with fail; have eL := U4 ks; have cX := Li (k := k) (by omega); have dB : k + 1 <= ks.length := aD; have dA : (Value.int .i64 (max (deeps (ks.take k) : Int) ((Qb.mk op' nm' cm' m' ks').deep : Int))) = .int .i64 (deeps (ks.take (k + 1)) : Int) := by rw [dR.out, Fe]
      rw [cX]; refine ⟨⟨k + 1, dB, rfl, dA, ?_, ?_⟩, ?_⟩
      · rw [dJ.out, <- Nat.add_assoc (s + 1)]; exact bZ.out
      · exact aI.out.trans ((Qd sb _ _).trans bP.out)
      · exact Nat.sub_lt_sub_left aD (Nat.lt_succ_self k)
    · have : k = ks.length := by omega
      subst this; have eT := Xl ks; simp only [List.take_length] at aS ⊢; go_wp2_with fail; go_ret; exact ⟨Pp op name cm m ks, by rw [Po]; exact aS.out, aI.out⟩
end
set_option maxRecDepth 20000
set_option maxHeartbeats 800000
section
open Go.RowKit
theorem Nz : Xo 84 := fun _ _ => by kernel_rfl
theorem qkc : qca true 84 := by
 refine ⟨fun op name cmp n A m c w => ?_⟩; simp only [tcs]; go_enter Tryz.func84, Tryz.ntmps84
 go_wp2_with fail; go_ret; exact ⟨rfl, (Below.refl _ _).alloc (lR _) _⟩
theorem Ny : Xo 128 := fun _ _ => by kernel_rfl
theorem qkb : qca false 128 := by
 refine ⟨fun op name cmp n A m c w => ?_⟩; simp only [tcs]; go_enter Tryz.func128, Tryz.ntmps128
 go_wp2_with fail; go_ret; exact ⟨rfl, (Below.refl _ _).alloc (lR _) _⟩
theorem Bs {w2 : World} {fk fd : FuncId} {kb : Nat} {t1 t2 t3 : TypeId} {TB : Obj} (hk : w2.heap[kb]? = some (.cells #[.func (.func fk) #[] #[]] t1 (0, 0))) :
 Im (((w2.alloc TB).alloc (.cells #[.int .i64 0] t2 (0, 0))).alloc (.cells #[.func (.func fd) #[] #[.pointer (some ⟨w2.heap.size + 1, 0, none⟩), .pointer (some ⟨kb, 0, none⟩), .pointer (some ⟨w2.heap.size + 1 + 1, 0, none⟩)]] t3 (0, 0))) fk fd (w2.heap.size + 1) kb (w2.heap.size + 1 + 1) 0 := by
 have h := lHp hk; exact ⟨⟨t2, Qn (Qe (by simp))⟩, ⟨t1, Qn (Qn (Qn hk))⟩, ⟨t3, Qe (by simp)⟩, by omega, by omega⟩
theorem Eff.weak {p b : Nat} {w x w' : World} (h : Eff p w x) (k : Eff b x w') (hb : w.heap.size <= b) : Eff p w w' :=
 ⟨k.os.trans h.os, k.tape.trans h.tape, k.output.trans h.output, Nat.le_trans h.size k.size, fun i hi hn => (k.block i (Nat.lt_of_lt_of_le hi h.size) (by omega)).trans (h.block i hi hn)⟩
theorem Nf {one : List Tok -> R Qb} {l r : List Tok} {t : Qb} (h : one l = .ok (t, r)) (h1 : ¬ 20 < t.deep) (h2 : ¬ 200 < t.size) : Zn one l = .ok (t, r) := by
 simp only [Zn, h, Qc, Wn, h1, h2, or_self, if_false, Js, if_true]
theorem If {one : List Tok -> R Qb} {l r : List Tok} {t : Qb} (h : one l = .ok (t, r)) (h1 : 20 < t.deep \/ 200 < t.size) : Zn one l = .error (2, l) := by
 simp only [Zn, h, Qc, Wn, h1, if_true, Js]; rfl
theorem Mc (p fin : Nat) (l : List Tok) (w : World) (hp : PS w p fin l) :
 Calls Tryz.prog 118 #[.pointer (some ⟨p, 0, none⟩)] w fun e w' => e = .returned (Zx fin l).agg /\ Below w.heap.size w w' := by
 cases l with
 | nil => exact Rb p fin w hp
 | cons t r => exact Xj p fin t r w hp
theorem V2 (fin : Nat) (l : List Tok) : (Zx fin l).pos = Xd fin l := by cases l <;> rfl
theorem Lz : Xo 83 := fun _ _ => by kernel_rfl
theorem qd6 (f1 : FuncId) (one : List Tok -> R Qb) (n p fin : Nat) (bB : Xa true f1 p fin n one) (aN : Siz one) (cL : Xo f1) (l : List Tok) (w : World) (hp : PS w p fin l) (hl : l.length < n) (hn : n <= 6001) :
 Calls Tryz.prog 82 #[.pointer (some ⟨p, 0, none⟩), .func (.func f1) #[.pointer (some ⟨p, 0, none⟩)] #[], .func (.func 84) #[] #[]] w (Wp p fin w (Zn one l) (Gr true w)) := by
 have bX := Hi bB; have dI := Hi aN; have dP := Hi cL; have HP := Hi hp; have aP := hp.lt; clear bB aN cL hp; go_enter Tryz.func82, Tryz.ntmps82
 go_wp2_with fail; refine (Mc p fin l _ (Qi (Qi HP.out _) _)).mono ?_; rintro e w1 ⟨rfl, aC⟩; have aU := (Qi (Qi HP.out _) _).below aC; have aR := Hi aU; have bI := Hi ((Qd p w _).trans ((Qd p _ _).trans (Eff.of_below aC))); have bY := Hi ((aC.block w.heap.size (by simp; omega)).trans (Qn (Qe rfl))); have bL := Hi ((aC.block (w.heap.size + 1) (by simp)).trans (Qe (by simp))); clear aU aC; simp only [Tok.agg]; go_wp2_with fail; rw [dP.out, Oper.upon_enter]; refine bX.out.call aR.out hl ?_ ?_
 case refine_2 =>
  intro c s w2 hq aB; have HQ := Hi hq; clear hq; go_wp2_with fail; refine ⟨rfl, ?_⟩; rw [show Zn one l = .error (c, s) by simp only [Zn, HQ.out, Qc]]; exact ⟨rfl, bI.out.trans aB⟩
 case refine_1 =>
  intro t r v w2 hq hv aK aB hr; have cC := dI.out l t r hq; obtain ⟨cs, rfl, aF⟩ := hv; have bG := Hi aF; obtain ⟨T, hT⟩ : ∃ T, T = t := ⟨t, rfl⟩
  obtain ⟨o1, name, cm, m, ks⟩ := t; obtain ⟨A, cap, rfl, -, -⟩ := aF; simp only [tcs]; have HQ := Hi hq; have aX := Hi aK; have aJ := Hi (bI.out.trans aB); have hs := aB.size; have cK := (aB.block w.heap.size (lHp bY.out) (by omega)).trans bY.out; have bS := (aB.block (w.heap.size + 1) (lHp bL.out) (by omega)).trans bL.out; have z1 := lHp bL.out; have z2 := lHp bS; have cS := Hi cK; have cR := Hi bS; have dG := Hi cC; clear hq aK aB cK bS cC bY bL; go_wp2_with fail; have h4 := dG.out; refine (qkk 84 qkc Nz (w2.heap.size + 1) w.heap.size (w2.heap.size + 1 + 1) _ (.mk o1 name cm m ks) 0 (tcs true o1 name cm m (.slice A ks.length cap)) _ (lR _) (by omega) (Bs cS.out) (bG.out.keep (by simp; omega) (fun k hk aD => ⟨by omega, (Below.heap_alloc _ _ _ (by simp; omega)).trans ((Below.heap_alloc _ _ _ (by simp; omega)).trans (Below.heap_alloc _ _ _ aD))⟩))).mono ?_; rintro e w4 ⟨rfl, bU, aH⟩; have cZ := aH.size; simp only [World.size_alloc] at cZ; have aY := Hi (Eff.weak (aJ.out.trans ((Qd p _ _).trans ((Qd p _ _).trans (Qd p _ _)))) aH (by omega)); have bO := Hi (PS.keep (Qi (Qi (Qi aX.out _) _) _) aH.size (fun k hk => aH.block k (by simp; omega) (by omega))); obtain ⟨⟨ts, aL⟩, -, -, -, -⟩ := bU; simp only [Nat.zero_add] at aL; have q0 := cOb (o := 0) aL rfl; have ql := lHp aL; have aG := (aH.block (w.heap.size + 1) (by simp; omega) (by omega)).trans (Qn (Qn (Qn cR.out))); have aT := (aH.block w2.heap.size (by simp; omega) (by omega)).trans (Qn (Qn (Qe rfl))); have bW := Hi (bG.out.keep (S' := fun k => w.heap.size + 1 + 1 <= k) (w' := w4) (by omega) (fun k hk aD => ⟨by omega, (aH.block k (by simp; omega) (by omega)).trans ((Below.heap_alloc _ _ _ (by simp; omega)).trans ((Below.heap_alloc _ _ _ (by simp; omega)).trans (Below.heap_alloc _ _ _ aD)))⟩)); obtain ⟨dp, bT⟩ : ∃ dp, dp = (Qb.mk o1 name cm m ks).deep := ⟨_, rfl⟩
  obtain ⟨sz, aN⟩ : ∃ sz, sz = (Qb.mk o1 name cm m ks).size := ⟨_, rfl⟩
  rw [<- bT]; rw [<- aN] at q0; have cU := Hi bT; have bF := Hi aN; have n1 : ¬ w2.heap.size = w.heap.size + 1 := by omega
  have n2 : ¬ w.heap.size + 1 = w2.heap.size := by omega
  have e0 := cOb (o := 0) aT rfl; have e1 := cOb (o := 1) aT rfl; have e2 := cOb (o := 2) aT rfl; have e3 := cOb (o := 3) aT rfl; have e4 := cOb (o := 4) aT rfl; have tl := lHp aT; have c0 := cOb (o := 0) aG rfl; have c1 := cOb (o := 1) aG rfl; have c2 := cOb (o := 2) aG rfl; have c3 := cOb (o := 3) aG rfl; have c4 := cOb (o := 4) aG rfl; have f0 := fOb (o := 0) aG; have f1 := fOb (o := 1) aG; have f2 := fOb (o := 2) aG; have f3 := fOb (o := 3) aG; have f4 := fOb (o := 4) aG; have dl := lHp aG; clear bT aN aL aG aT aH cR cS h4
  by_cases cA : 20 < dp
  · have y1 : (20 : Int) < dp := by omega
    go_wp2_with fail; refine ⟨rfl, ?_⟩; rw [If HQ.out (.inl (by rw [<- cU.out]; exact cA))]; refine ⟨?_, aY.out⟩; rw [<- V2]; rfl
  · have y1 : ¬ (20 : Int) < dp := by omega
    by_cases bE : 200 < sz
    · have y2 : (200 : Int) < sz := by omega
      go_wp2_with fail; refine ⟨rfl, ?_⟩; rw [If HQ.out (.inr (by rw [<- bF.out]; exact bE))]; refine ⟨?_, aY.out⟩; rw [<- V2]; rfl
    · have y2 : ¬ (200 : Int) < sz := by omega
      go_wp2_with fail; refine bodyPost_ret (v := .agg (tcs true o1 name cm m (.slice A ks.length cap)).toArray) (by simp [results, Tryz.results82, go_sem, tcs, *]) rfl ?_; exact Wm (b := w.heap.size + 1) (by omega) bW.out bO.out aY.out ((((Off.refl (w.heap.size + 1) w4).set (o := 0) _).set (o := 1) _).set (o := 2) _ |>.set (o := 3) _ |>.set (o := 4) _) (by omega) (Nf HQ.out (by rw [<- cU.out]; exact cA) (by rw [<- bF.out]; exact bE))
theorem Ly : Xo 127 := fun _ _ => by kernel_rfl
theorem qd5 (f1 : FuncId) (one : List Tok -> R Qb) (n p fin : Nat) (bB : Xa false f1 p fin n one) (aN : Siz one) (cL : Xo f1) (l : List Tok) (w : World) (hp : PS w p fin l) (hl : l.length < n) (hn : n <= 6001) :
 Calls Tryz.prog 126 #[.pointer (some ⟨p, 0, none⟩), .func (.func f1) #[.pointer (some ⟨p, 0, none⟩)] #[], .func (.func 128) #[] #[]] w (Wp p fin w (Zn one l) (Gr false w)) := by
 have bX := Hi bB; have dI := Hi aN; have dP := Hi cL; have HP := Hi hp; have aP := hp.lt; clear bB aN cL hp; go_enter Tryz.func126, Tryz.ntmps126
 go_wp2_with fail; refine (Mc p fin l _ (Qi (Qi HP.out _) _)).mono ?_; rintro e w1 ⟨rfl, aC⟩; have aU := (Qi (Qi HP.out _) _).below aC; have aR := Hi aU; have bI := Hi ((Qd p w _).trans ((Qd p _ _).trans (Eff.of_below aC))); have bY := Hi ((aC.block w.heap.size (by simp; omega)).trans (Qn (Qe rfl))); have bL := Hi ((aC.block (w.heap.size + 1) (by simp)).trans (Qe (by simp))); clear aU aC; simp only [Tok.agg]; go_wp2_with fail; rw [dP.out, Oper.upon_enter]; refine bX.out.call aR.out hl ?_ ?_
 case refine_2 =>
  intro c s w2 hq aB; have HQ := Hi hq; clear hq; go_wp2_with fail; refine ⟨rfl, ?_⟩; rw [show Zn one l = .error (c, s) by simp only [Zn, HQ.out, Qc]]; exact ⟨rfl, bI.out.trans aB⟩
 case refine_1 =>
  intro t r v w2 hq hv aK aB hr; have cC := dI.out l t r hq; obtain ⟨cs, rfl, aF⟩ := hv; have bG := Hi aF; obtain ⟨T, hT⟩ : ∃ T, T = t := ⟨t, rfl⟩
  obtain ⟨o1, name, cm, m, ks⟩ := t; obtain ⟨A, cap, rfl, -, -⟩ := aF; simp only [tcs]; have HQ := Hi hq; have aX := Hi aK; have aJ := Hi (bI.out.trans aB); have hs := aB.size; have cK := (aB.block w.heap.size (lHp bY.out) (by omega)).trans bY.out; have bS := (aB.block (w.heap.size + 1) (lHp bL.out) (by omega)).trans bL.out; have z1 := lHp bL.out; have z2 := lHp bS; have cS := Hi cK; have cR := Hi bS; have dG := Hi cC; clear hq aK aB cK bS cC bY bL; go_wp2_with fail; have h4 := dG.out; refine (qkj 128 qkb Ny (w2.heap.size + 1) w.heap.size (w2.heap.size + 1 + 1) _ (.mk o1 name cm m ks) 0 (tcs false o1 name cm m (.slice A ks.length cap)) _ (lR _) (by omega) (Bs cS.out) (bG.out.keep (by simp; omega) (fun k hk aD => ⟨by omega, (Below.heap_alloc _ _ _ (by simp; omega)).trans ((Below.heap_alloc _ _ _ (by simp; omega)).trans (Below.heap_alloc _ _ _ aD))⟩))).mono ?_; rintro e w4 ⟨rfl, bU, aH⟩; have cZ := aH.size; simp only [World.size_alloc] at cZ; have aY := Hi (Eff.weak (aJ.out.trans ((Qd p _ _).trans ((Qd p _ _).trans (Qd p _ _)))) aH (by omega)); have bO := Hi (PS.keep (Qi (Qi (Qi aX.out _) _) _) aH.size (fun k hk => aH.block k (by simp; omega) (by omega))); obtain ⟨⟨ts, aL⟩, -, -, -, -⟩ := bU; simp only [Nat.zero_add] at aL; have q0 := cOb (o := 0) aL rfl; have ql := lHp aL; have aG := (aH.block (w.heap.size + 1) (by simp; omega) (by omega)).trans (Qn (Qn (Qn cR.out))); have aT := (aH.block w2.heap.size (by simp; omega) (by omega)).trans (Qn (Qn (Qe rfl))); have bW := Hi (bG.out.keep (S' := fun k => w.heap.size + 1 + 1 <= k) (w' := w4) (by omega) (fun k hk aD => ⟨by omega, (aH.block k (by simp; omega) (by omega)).trans ((Below.heap_alloc _ _ _ (by simp; omega)).trans ((Below.heap_alloc _ _ _ (by simp; omega)).trans (Below.heap_alloc _ _ _ aD)))⟩)); obtain ⟨dp, bT⟩ : ∃ dp, dp = (Qb.mk o1 name cm m ks).deep := ⟨_, rfl⟩
  obtain ⟨sz, aN⟩ : ∃ sz, sz = (Qb.mk o1 name cm m ks).size := ⟨_, rfl⟩
  rw [<- bT]; rw [<- aN] at q0; have cU := Hi bT; have bF := Hi aN; have n1 : ¬ w2.heap.size = w.heap.size + 1 := by omega
  have n2 : ¬ w.heap.size + 1 = w2.heap.size := by omega
  have e0 := cOb (o := 0) aT rfl; have e1 := cOb (o := 1) aT rfl; have e2 := cOb (o := 2) aT rfl; have e3 := cOb (o := 3) aT rfl; have tl := lHp aT; have c0 := cOb (o := 0) aG rfl; have c1 := cOb (o := 1) aG rfl; have c2 := cOb (o := 2) aG rfl; have c3 := cOb (o := 3) aG rfl; have f0 := fOb (o := 0) aG; have f1 := fOb (o := 1) aG; have f2 := fOb (o := 2) aG; have f3 := fOb (o := 3) aG; have dl := lHp aG; clear bT aN aL aG aT aH cR cS h4
  by_cases cA : 20 < dp
  · have y1 : (20 : Int) < dp := by omega
    go_wp2_with fail; refine ⟨rfl, ?_⟩; rw [If HQ.out (.inl (by rw [<- cU.out]; exact cA))]; refine ⟨?_, aY.out⟩; rw [<- V2]; rfl
  · have y1 : ¬ (20 : Int) < dp := by omega
    by_cases bE : 200 < sz
    · have y2 : (200 : Int) < sz := by omega
      go_wp2_with fail; refine ⟨rfl, ?_⟩; rw [If HQ.out (.inr (by rw [<- bF.out]; exact bE))]; refine ⟨?_, aY.out⟩; rw [<- V2]; rfl
    · have y2 : ¬ (200 : Int) < sz := by omega
      go_wp2_with fail; refine bodyPost_ret (v := .agg (tcs false o1 name cm m (.slice A ks.length cap)).toArray) (by simp [results, Tryz.results126, go_sem, tcs, *]) rfl ?_; exact Wm (b := w.heap.size + 1) (by omega) bW.out bO.out aY.out ((((Off.refl (w.heap.size + 1) w4).set (o := 0) _).set (o := 1) _).set (o := 2) _ |>.set (o := 3) _) (by omega) (Nf HQ.out (by rw [<- cU.out]; exact cA) (by rw [<- bF.out]; exact bE))
end
set_option maxRecDepth 20000
set_option maxHeartbeats 800000
section
open Go.RowKit
theorem Lk (W : List UInt8) (op n p fin : Nat) (l : List Tok) (w : World) (hp : PS w p fin l) (hl : l.length < n) (hn : n <= 6001) :
 Calls Tryz.prog 86 #[.pointer (some ⟨p, 0, none⟩), vs W, .int .i64 op] w (Wp p fin w (Ym n W op l) (Gr false w)) := by
 have HP := Hi hp; have aP := hp.lt; clear hp; go_enter Tryz.func86, Tryz.ntmps86
 go_wp2_with fail; refine Ua [W] _ 1 rfl 1 p fin l _ (Qi (Qi HP.out _) _) (RdS.new (Qe (by simp))) (by omega) ?_ ?_
 case refine_1 =>
  intro w1 ht aU aW; have HT := Hi ht; have aR := Hi aU; have HE := Hi ((Qd p w _).trans ((Qd p _ _).trans aW)); have aA := (aW.block w.heap.size (by simp; omega) (by omega)).trans (Qn (Qe rfl)); have c0 := cOb (o := 0) aA rfl; have c1 := cOb (o := 1) aA rfl; have c2 := cOb (o := 2) aA rfl; have c3 := cOb (o := 3) aA rfl; have f0 := fOb (o := 0) aA; have f1 := fOb (o := 1) aA; have f2 := fOb (o := 2) aA; have f3 := fOb (o := 3) aA; have dl := lHp aA; clear ht aU aW aA; go_wp2_with fail; refine bodyPost_ret (v := .agg (tcs false op [] 0 0 (.slice none 0 0)).toArray) (by simp [results, Tryz.results86, go_sem, tcs, *]) rfl ?_; exact Wm (lR _) (Qg.leaf op [] 0 0 none 0) aR.out HE.out ((((Off.refl w.heap.size w1).set (o := 0) _).set (o := 1) _).set (o := 2) _ |>.set (o := 3) _) aP (show Ym n W op l = .ok (.mk op [] 0 0 [], l) by simp only [Ym, Jc, HT.out])
 case refine_2 =>
  intro i r w1 ht hi hr aU aW; have HT := Hi ht; have aR := Hi aU; have HE := Hi ((Qd p w _).trans ((Qd p _ _).trans aW)); have aE := Hi ((aW.block w.heap.size (by simp; omega) (by omega)).trans (Qn (Qe rfl))); have dC : decide ((i : Int) < 0) = false := qbu i; have eP : ¬ (i : Int) < 0 := by omega
  clear ht aU aW; go_wp2_with fail; refine Qq (qd5 127 (Jk n) n p fin (Sw n hn) (Ds n) Ly r _ aR.out (by omega) hn) ?_ ?_
  case refine_2 =>
   intro c s w2 hq aB; have HQ := Hi hq; clear hq; go_wp2_with fail; refine ⟨rfl, ?_⟩; rw [show Ym n W op l = .error (c, s) by simp only [Ym, Jc, HT.out, HQ.out]]; exact ⟨rfl, HE.out.trans aB⟩
  case refine_1 =>
   intro t r2 v w2 hq hv aK aB; obtain ⟨cs, rfl, aF⟩ := hv; have bG := Hi aF; obtain ⟨o1, name, cm, m, ks⟩ := t; obtain ⟨A, cap, rfl, -, -⟩ := aF; simp only [tcs]; have HQ := Hi hq; have aX := Hi aK; have aJ := Hi (HE.out.trans aB); have hz := lHp aE.out; have aA := (aB.block w.heap.size hz (by omega)).trans aE.out; have c0 := cOb (o := 0) aA rfl; have c1 := cOb (o := 1) aA rfl; have c2 := cOb (o := 2) aA rfl; have c3 := cOb (o := 3) aA rfl; have f0 := fOb (o := 0) aA; have f1 := fOb (o := 1) aA; have f2 := fOb (o := 2) aA; have f3 := fOb (o := 3) aA; have dl := lHp aA; clear hq aK aB aA; go_wp2_with fail; refine bodyPost_ret (v := .agg (tcs false o1 name cm m (.slice A ks.length cap)).toArray) (by simp [results, Tryz.results86, go_sem, tcs, *]) rfl ?_; exact Wm (lR _) (bG.out.keep (lR _) (fun b hb _ => ⟨by omega, rfl⟩)) aX.out aJ.out ((((Off.refl w.heap.size w2).set (o := 0) _).set (o := 1) _).set (o := 2) _ |>.set (o := 3) _) aP (show Ym n W op l = .ok (.mk o1 name cm m ks, r2) by simp only [Ym, Jc, HT.out, HQ.out])
end
end Go.Proofs.YtbicmjmcdnkjhaaGreatDoor
namespace Go
noncomputable def World.grew (w x : World) : World := @ite _ (RowKit.Below w.heap.size w x) (Classical.propDecidable _) x w
end Go
namespace Go.Proofs.YtbicmjmcdnkjhaaGreatDoor
section
open Go.RowKit
theorem gBl (w x : World) : Below w.heap.size w (World.grew w x) := by
 unfold World.grew
 split
 · assumption
 · exact Below.refl _ _
theorem qbx {w x : World} (h : Below w.heap.size w x) : World.grew w x = x := by
 unfold World.grew; rw [if_pos h]
@[go_sem] theorem qkn {w x : World} {b o : Nat} (h : b < w.heap.size) : (World.grew w x).cell? ⟨b, o, none⟩ = w.cell? ⟨b, o, none⟩ := (gBl w x).cell (p := ⟨b, o, none⟩) h
@[go_sem] theorem qip {w x : World} {b o : Nat} (h : b < w.heap.size) : (World.grew w x).frozen? ⟨b, o, none⟩ = w.frozen? ⟨b, o, none⟩ := (gBl w x).frozen (p := ⟨b, o, none⟩) h
theorem Je {P : Program} {id : Nat} {Q : Exit -> Act -> World -> Prop} {a : Act} {w : World} {l : List Oper} (hm : P.follows .mixedOrders = true) (hB : Region.lexB .any l.toArray = true)
 (h : wpQuiet P l.toArray (fun w' => ∃ x, w' = World.grew w x) (fun a' => ∀ w', (∃ x, w' = World.grew w x) -> Q .normal a' w') l a) : (Code.region id l.toArray true).wp P Q a w :=
 wp_region_quiet (C := fun w' => ∃ x, w' = World.grew w x) hm hB ⟨w.drew, (qbx (Below.refl _ _).drew).symm⟩ (by simpa using h)
theorem W7 {P : Program} {f : FuncId} {args : Array Value} {w x : World} {v : Value} (h : Calls P f args (World.grew w x) fun e w' => e = .returned v /\ Below (World.grew w x).heap.size (World.grew w x) w') :
 Calls P f args (World.grew w x) fun e w' => e = .returned v /\ ∃ y, w' = World.grew w y :=
 h.mono fun _ w' ⟨he, hb⟩ => ⟨he, w', (qbx ((gBl w x).trans (hb.mono (gBl w x).size))).symm⟩
abbrev Xn (w : World) (base : Nat) (v : Value) (l : List (List UInt8)) : Prop := w.ownsRow base 9 1 v l.length (l.map vs)
theorem Xn.form {w : World} {base : Nat} {v : Value} {l : List (List UInt8)} (h : Xn w base v l) : ∃ A cap, v = .slice A l.length cap /\ l.length <= cap /\ RdS w A l /\ ∀ b o, A = some ⟨b, o, none⟩ -> base <= b /\ b < w.heap.size := by
 rcases h.2 with ⟨hv, h0⟩ | ⟨g, cap, cur, rfl, r2, r3, r4, r5, r6, r7⟩
 · refine ⟨none, 0, ?_, by omega, ?_, fun b o e => by cases e⟩
   · rw [hv, h0]
   · have := List.length_eq_zero_iff.1 h0; subst this; exact Sl.nil
 · refine ⟨_, cap, rfl, r4, ?_, fun b o e => by cases e; exact ⟨r2, lHp r3⟩⟩; intro cI; refine ⟨g, 0, rfl, lHp r3, fun k x hx j u hu => ?_⟩; cases j with
   | succ j => simp at hu
   | zero =>
     simp at hu; subst hu; refine cOb r3 ?_; have hk : (l.map vs)[k]? = some (vs x) := by simp [hx]
     rw [<- r7, List.getElem?_take] at hk
     split at hk
     · rw [<- Array.getElem?_toList]; simpa using hk
     · cases hk
theorem Xn.keep {w w' : World} {base : Nat} {v : Value} {l : List (List UInt8)} (h : Xn w base v l) (hk : ∀ b, base <= b -> b < w.heap.size -> w'.heap[b]? = w.heap[b]?) : Xn w' base v l := by
 refine ⟨h.1, ?_⟩; rcases h.2 with h | ⟨g, cap, cur, rfl, r2, r3, r4⟩
 · exact .inl h
 · exact .inr ⟨g, cap, cur, rfl, r2, (hk g r2 (lHp r3)).trans r3, r4⟩
theorem Xn.eff {p : Nat} {w w' : World} {base : Nat} {v : Value} {l : List (List UInt8)} (h : Xn w base v l) (he : Eff p w w') (hp : p < base) : Xn w' base v l :=
 h.keep (fun b hb aD => he.block b aD (by omega))
theorem Xn.nil {w : World} {base : Nat} : Xn w base (.slice none 0 0) [] := ⟨rfl, .inl ⟨rfl, rfl⟩⟩
theorem Xn.own {w : World} {base : Nat} {v : Value} {l : List (List UInt8)} (h : Xn w base v l) : ∀ b, v.ownBlock = some b -> base <= b /\ b < w.heap.size := by
 rcases h.2 with ⟨hv, h0⟩ | ⟨g, cap, cur, rfl, r2, r3, r4⟩
 · intro b hb; rw [hv] at hb; simp [Value.ownBlock] at hb
 · intro b hb; simp [Value.ownBlock] at hb; subst hb; exact ⟨r2, lHp r3⟩
theorem Fl : (Tryz.prog.info? 9).map (fun i => (i.zero, i.size, i.bytes)) = some (some (.string ⟨#[]⟩), 1, 16) := by kernel_rfl
theorem Wd {ops : Array Oper} {rest : List Oper} {o : Oper} {a : Act} {w : World} {Q : Exit -> Act -> World -> Prop} (eQ : o.guard = none) (s x : Operand) (eK : o.op = Op.call { callee := Callee.builtin Builtin.append, args := #[s, x], argTypes := #[25, 25] })
 (base : Nat) (v : Value) (l : List (List UInt8)) (g0 : Nat) (t : List UInt8) (hs : a.eval s = v) (hx : a.eval x = .slice (some ⟨g0, 0, none⟩) 1 1) (bA : Xn w base v l) (hc : w.cell? ⟨g0, 0, none⟩ = some (vs t))
 (eM : l.length + 1 <= 1000000) (hb : base <= w.heap.size) (h : ∀ v' w', Xn w' base v' (l ++ [t]) -> w.grownBy w' v.ownBlock -> wpList Tryz.prog ops Q rest (a.put o.dst v') w') : wpList Tryz.prog ops Q (o :: rest) a w := by
 obtain ⟨i0, dC, eH, dU, eG⟩ := info_parts Fl; refine wpList_append_own_at _ eQ s x _ eK base 9 i0 (.string ⟨#[]⟩) 1 16 Tryz.underlying25 dC eH dU eG rfl (by decide) v l.length (l.map vs) hs bA ⟨g0, 0, none⟩ 1 1 [vs t] hx rfl (fun j u hu => ?_) (by simp [Value.oneCell']) (by unfold maxLen; omega) (by omega) hb ?_
 · cases j with
   | succ j => simp at hu
   | zero => simp at hu; subst hu; rw [Addr.add_lit]; exact hc
 · intro v' w' ho hg _ _; exact h v' w' (by unfold Xn; simpa using ho) hg
end
set_option maxRecDepth 20000
set_option maxHeartbeats 400000
section
open Go.RowKit
theorem qik {l : List (List UInt8)} {s : List UInt8} (h : l.contains s = false) : ixS l s = none := by
 unfold ixS; rw [List.findIdx?_eq_none_iff]; intro x hx; cases hb : (s == x) with
 | false => rfl
 | true =>
   have : s = x := by simpa using hb
   subst this; simp at h; exact absurd hx h
theorem qij {l : List (List UInt8)} {s : List UInt8} (h : l.contains s = true) : ∃ i, ixS l s = some i := by
 cases hi : ixS l s with
 | some i => exact ⟨i, rfl⟩
 | none =>
   unfold ixS at hi; rw [List.findIdx?_eq_none_iff] at hi; simp at h; have := hi s h; simp at this
theorem J7 (l : List (List UInt8)) (A : Option Addr) (c : Nat) (s : List UInt8) (w : World) (hr : RdS w A l) (hl : l.length <= 1000) :
 Calls Tryz.prog 125 #[.slice A l.length c, vs s] w fun e w' => e = .returned (.bool (l.contains s)) /\ w = w' := by
 have HR := Hi hr; clear hr; cases hc : l.contains s with
 | true =>
   obtain ⟨i, hi⟩ := qij hc; have HI := Hi hi; have h0 : (0 : Int) <= i := by omega
   clear hi hc; go_enter Tryz.func125, Tryz.ntmps125
   go_wp2_with fail; refine (U7 l A c s _ HR.out (by unfold maxLen; omega)).mono ?_; rintro e w1 ⟨rfl, rfl⟩; rw [HI.out]; go_wp2_with fail; go_ret; exact ⟨rfl, rfl⟩
 | false =>
   have HI := Hi (qik hc); clear hc; go_enter Tryz.func125, Tryz.ntmps125
   go_wp2_with fail; refine (U7 l A c s _ HR.out (by unfold maxLen; omega)).mono ?_; rintro e w1 ⟨rfl, rfl⟩; rw [HI.out]; go_wp2_with fail; go_ret; exact ⟨rfl, rfl⟩
end
set_option maxRecDepth 20000
set_option maxHeartbeats 800000
section
open Go.RowKit
abbrev StrV (w : World) (l : List (List UInt8)) (v : Value) (w' : World) : Prop := ∃ A cap, v = .slice A l.length cap /\ l.length <= cap /\ RdS w' A l /\ ∀ b o, A = some ⟨b, o, none⟩ -> w.heap.size <= b /\ b < w'.heap.size
theorem Ib (n : Nat) (out : List (List UInt8)) (l : List Tok) : Zf (n + 1) out l = Qc (Jb l) fun s r =>
 Js l (Xv out s) <| Jc [[44]] r (fun _ r' => Zf n (out ++ [s]) r') (fun r' => .ok (out ++ [s], r')) := rfl
theorem G8 (p fin : Nat) (l : List Tok) (w : World) (hp : PS w p fin l) :
 Calls Tryz.prog 85 #[.pointer (some ⟨p, 0, none⟩)] w (Wp p fin w (Zf 22 [] l) (StrV w)) := by
 have HP := Hi hp; have aP := hp.lt; clear hp; go_enter Tryz.func85, Tryz.ntmps85
 go_wp2_with fail; go_loopw [3] (fun v wr => ∃ (k : Nat) (acc : List (List UInt8)) (r : List Tok), acc.length + (k + 1) = 22 /\ acc.length <= 20 /\ Zf 22 [] l = Zf (k + 1) acc r /\ PS wr p fin r /\ Eff p w wr /\ Xn wr w.heap.size v acc) (fun _ wr => plen p wr)
 case atStart => exact ⟨21, [], l, rfl, by simp, rfl, HP.out, Eff.refl p w, Xn.nil⟩
 case round =>
  obtain ⟨k, acc, r, hk, cA, cM, dX, bJ, bA⟩ := hrel; obtain ⟨A, cap, rfl, bK, dW, hA⟩ := bA.form; have dO := Hi bA; have fB := Hi dW; have cT := Hi cM; have dM := Hi dX; have cW := Hi bJ; have HA := Hi hA; have eV := bJ.size; clear bA dW cM dX bJ hA HP; go_wp2_with fail; refine (Mc p fin r _ dM.out).mono ?_; rintro e w1 ⟨rfl, aC⟩; have dT := Hi aC; have aR := Hi (dM.out.below aC); clear aC; simp only [Tok.agg]; go_wp2_with fail; refine Qq (Km p fin r _ aR.out) ?_ ?_
  case refine_2 =>
   intro c s w2 hq aB; have HQ := Hi hq; clear hq; go_wp2_with fail; refine ⟨rfl, ?_⟩; rw [show Zf 22 [] l = .error (c, s) by rw [cT.out, Ib, HQ.out]; rfl]; exact ⟨rfl, cW.out.trans ((Eff.of_below dT.out).trans aB)⟩
  case refine_1 =>
   intro s r2 v w2 hq hv aK aB; subst hv; have HQ := Hi hq; have aX := Hi aK; have aJ := Hi ((Eff.of_below dT.out).trans aB); have eB := Hi (dO.out.eff ((Eff.of_below dT.out).trans aB) aP); clear hq aK aB; go_wp2_with fail; obtain ⟨A2, eU, eI, -, cF, -⟩ := eB.out.form; cases eI; refine (J7 acc A cap s _ cF (by omega)).mono ?_; rintro e w3 ⟨rfl, rfl⟩; clear cF; cases hc : acc.contains s with
   | true =>
     have HC := Hi hc; clear hc; go_wp2_with fail; refine ⟨rfl, ?_⟩; rw [show Zf 22 [] l = .error (9, r) by rw [cT.out, Ib, HQ.out]; simp only [Qc, Xv, HC.out, if_true, Js]; rfl]; refine ⟨?_, cW.out.trans aJ.out⟩; rw [<- V2]; rfl
   | false =>
     have HC := Hi hc; clear hc
     by_cases h2 : acc.length = 20
     · have y1 : ((acc.length : Int) == 20) = true := by simp; omega
       have H2 := Hi h2; clear h2; go_wp2_with fail; refine ⟨rfl, ?_⟩; rw [show Zf 22 [] l = .error (2, r) by rw [cT.out, Ib, HQ.out]; simp only [Qc, Xv, HC.out, H2.out, if_true, Js]; rfl]; refine ⟨?_, cW.out.trans aJ.out⟩; rw [<- V2]; rfl
     · have y1 : ((acc.length : Int) == 20) = false := by simp; omega
       have H2 := Hi h2; have eW := aJ.out.size; have bN : (w2.alloc (.cells #[vs s] 9 (0, 0))).cell? ⟨w2.heap.size, 0, none⟩ = some (vs s) := cOb (heap_alloc_new w2 _) rfl; have cV := Hi bN; have eA := Hi (eB.out.eff (Qd p w2 (.cells #[vs s] 9 (0, 0))) aP); have cD : w.heap.size <= (w2.alloc (.cells #[vs s] 9 (0, 0))).heap.size := by simp; omega
       have dH := Hi cD; clear h2 bN cD; go_wp2_with (at_builtin; refine Wd rfl (.tmp 25) (.tmp 27) rfl w.heap.size (.slice A acc.length cap) acc w2.heap.size s rfl rfl eA.out cV.out (by omega) dH.out ?_; intro v' w3 ho hg)
       have bM := eA.out.own; have dN := Hi ((Qi aX.out (.cells #[vs s] 9 (0, 0))).grown hg (fun b hb => by have := (bM b hb).1; omega)); have bP := Hi (((cW.out.trans aJ.out).trans (Qd p w2 (.cells #[vs s] 9 (0, 0)))).grown hg (fun b hb => (bM b hb).1)); have dZ := Hi ho; have eY := R7 HQ.out; have eC := Hi (show Zf (k + 1) acc r = Jc [[44]] r2 (fun _ r' => Zf k (acc ++ [s]) r') (fun r' => .ok (acc ++ [s], r')) by rw [Ib, HQ.out]; simp only [Qc, Xv, HC.out, H2.out, if_false, Bool.false_eq_true, Js, if_true]); clear hg ho; refine Ua [[44]] _ 1 rfl 1 p fin r2 _ (Qi dN.out _) (RdS.new (Qe rfl)) (by omega) ?_ ?_
       case refine_1 =>
        intro w4 ht cH aH; have HT := Hi ht; have bO := Hi cH; have aY := Hi ((Qd p w3 _).trans aH); clear ht cH aH; go_wp2_with fail; go_ret; rw [show Zf 22 [] l = .ok (acc ++ [s], r2) by rw [cT.out, eC.out]; simp only [Jc, HT.out]]; exact ⟨_, rfl, (dZ.out.eff aY.out aP).form, bO.out, bP.out.trans aY.out⟩
       case refine_2 =>
        intro i r3 w4 ht hi eJ cH aH; have HT := Hi ht; have bO := Hi cH; have aY := Hi ((Qd p w3 _).trans aH); have dC : decide ((i : Int) < 0) = false := qbu i; have eP : ¬ (i : Int) < 0 := (by omega)
        obtain ⟨k', rfl⟩ : ∃ k', k = k' + 1 := ⟨k - 1, by omega⟩
        clear ht cH aH; go_wp2_with fail; have h2 := H2.out; refine ⟨⟨k', acc ++ [s], r3, by simp; omega, by simp; omega, ?_, bO.out, bP.out.trans aY.out, dZ.out.eff aY.out aP⟩, ?_⟩
        · rw [cT.out, eC.out]; simp only [Jc, HT.out]
        · rw [bO.out.plen, dM.out.plen]; omega
end
section
def Qv (w : Qa) : Nat × Qa × Nat :=
 match w with
 | [] => (0, [], 0)
 | c :: r => match Qt c r with | .ok (k, m, v) => if m = r.length + 1 then (k, c :: r, v) else (0, c :: r, 0) | .error _ => (0, c :: r, 0)
theorem qac (w : Qa) : (Qv w).2.1 = w := by
 unfold Qv
 split
 · rfl
 · split
   · split <;> rfl
   · rfl
def Qs (W : List Qa) (ts : List Tok) : Prop := ts.map Y5 = W.map Qv
theorem Qs.cons {w : Qa} {W : List Qa} {ts : List Tok} (h : Qs (w :: W) ts) : ∃ t r, ts = t :: r /\ Y5 t = Qv w /\ Qs W r := by
 unfold Qs at *; cases ts with
 | nil => simp at h
 | cons t r =>
   simp only [List.map_cons, List.cons.injEq] at h; exact ⟨t, r, rfl, h.1, h.2⟩
theorem Qs.nil {ts : List Tok} (h : Qs [] ts) : ts = [] := by
 unfold Qs at h; simpa using h
theorem Qs.app {W1 W2 : List Qa} {ts : List Tok} (h : Qs (W1 ++ W2) ts) : ∃ t1 t2, ts = t1 ++ t2 /\ Qs W1 t1 /\ Qs W2 t2 := by
 unfold Qs at *; rw [List.map_append, List.map_eq_append_iff] at h; obtain ⟨a, b, h1, h2, h3⟩ := h; exact ⟨a, b, h1, h2, h3⟩
theorem Qs.len {W : List Qa} {ts : List Tok} (h : Qs W ts) : ts.length = W.length := by
 have := congrArg List.length h; simpa using this
theorem cTx {t : Tok} {w : Qa} (h : Y5 t = Qv w) : t.text = w := by
 have := congrArg (fun x => x.2.1) h; rw [qac] at this; exact this
theorem Kf {t : Tok} {w : Qa} (h : Y5 t = Qv w) : t.kind = (Qv w).1 := congrArg (fun x => x.1) h
theorem qgz {t : Tok} {w : Qa} (h : Y5 t = Qv w) : t.n = (Qv w).2.2 := congrArg (fun x => x.2.2) h
def Oo (w : Qa) : Prop := (Qv w).1 = 1 \/ (Qv w).1 = 3
theorem Jm {ws : List Qa} {w : Qa} {i : Nat} {t : Tok} {r : List Tok} (h : Y5 t = Qv w) (hk : Oo w) (hi : ws.idxOf? w = some i) : Xb ws (t :: r) = (some i, r) := by
 have hw : Yg t = true := by
  unfold Yg; rw [Kf h]; rcases hk with h | h <;> rw [h] <;> rfl
 simp only [Xb]; rw [if_pos hw, cTx h, hi]
theorem Rp {ws : List Qa} {t : Tok} {r : List Tok} (h : t.text ∉ ws) : Xb ws (t :: r) = (none, t :: r) := by
 simp only [Xb]
 split
 · have : ws.idxOf? t.text = none := by simpa using h
   rw [this]
 · rfl
def Z4 (A : List Qa) (l : List Tok) : Prop := ∀ t r, l = t :: r -> t.text ∉ A
theorem Z4.sub {A B : List Qa} {l : List Tok} (h : Z4 A l) (hs : ∀ x ∈ B, x ∈ A) : Z4 B l := fun t r e hb => h t r e (hs _ hb)
theorem Z4.mk {A : List Qa} {w : Qa} {t : Tok} {r : List Tok} (h : Y5 t = Qv w) (hw : w ∉ A) : Z4 A (t :: r) := by
 intro t' r' e; cases e; rw [cTx h]; exact hw
theorem Xw {A ws : List Qa} {l : List Tok} (h : Z4 A l) (hs : ∀ x ∈ ws, x ∈ A) : Xb ws l = (none, l) := by
 cases l with
 | nil => rfl
 | cons t r => exact Rp (fun hm => h t r rfl (hs _ hm))
def Qp (s : Qa) : Bool := (Qv s).1 == 1 && !Wq s
theorem Vh {s : Qa} {t : Tok} {r : List Tok} (hn : Qp s = true) (h : Y5 t = Qv s) : Jb (t :: r) = .ok (s, r) := by
 unfold Qp at hn; rw [Bool.and_eq_true] at hn; have h1 : t.kind = 1 := by rw [Kf h]; simpa using hn.1
 simp only [Jb]; rw [if_pos (by rw [cTx h, h1, hn.2]; rfl), cTx h]
abbrev dec (n : Nat) : Qa := Lib.decDigits n
theorem F1 {d : Nat} (h : d < 10) : digitB (UInt8.ofNat (48 + d)) = true /\ (UInt8.ofNat (48 + d)).toNat - 48 = d /\ Ke (UInt8.ofNat (48 + d)) = false := by
 have : d = 0 \/ d = 1 \/ d = 2 \/ d = 3 \/ d = 4 \/ d = 5 \/ d = 6 \/ d = 7 \/ d = 8 \/ d = 9 := by omega
 rcases this with rfl | rfl | rfl | rfl | rfl | rfl | rfl | rfl | rfl | rfl <;> decide
theorem qds {n : Nat} (h : n < 10) : dec n = [UInt8.ofNat (48 + n)] := by
 show Lib.decDigits n = _
 rw [Lib.decDigits, dif_pos h]
theorem qiu {n : Nat} (h : ¬ n < 10) : dec n = dec (n / 10) ++ [UInt8.ofNat (48 + n % 10)] := by
 show Lib.decDigits n = _
 conv => lhs; rw [Lib.decDigits, dif_neg h]
theorem Nc : ∀ (k n : Nat), n < 10 ^ k -> 1 <= k -> (∀ b ∈ dec n, digitB b = true) /\ B6 (dec n) = n /\ 1 <= (dec n).length /\ (dec n).length <= k
 | 0, n, _, hk => absurd hk (by decide)
 | k + 1, n, h, _ => by
   by_cases dF : n < 10
   · obtain ⟨d1, d2, d3⟩ := F1 dF; rw [qds dF]; refine ⟨fun b hb => ?_, ?_, by simp, by simp⟩
     · rw [List.mem_singleton.1 hb]; exact d1
     · show 10 * 0 + ((UInt8.ofNat (48 + n)).toNat - 48) = n
       rw [d2]; omega
   · have hk : 1 <= k := by
       rcases Nat.eq_zero_or_pos k with rfl | h'
       · simp at h; omega
       · exact h'
     obtain ⟨a1, a2, a3, a4⟩ := Nc k (n / 10) (by
      rw [Nat.pow_succ] at h; exact Nat.div_lt_of_lt_mul (by rw [Nat.mul_comm]; exact h)) hk
     obtain ⟨d1, d2, d3⟩ := F1 (show n % 10 < 10 by omega); rw [qiu dF]; refine ⟨fun b hb => ?_, ?_, by simp, by simp; omega⟩
     · rw [List.mem_append] at hb; rcases hb with hb | hb
       · exact a1 b hb
       · rw [List.mem_singleton.1 hb]; exact d1
     · unfold B6 at a2 ⊢; rw [List.foldl_append, a2]; simp only [List.foldl_cons, List.foldl_nil, d2]; omega
theorem Iu {α : Type} {p : α -> Bool} {l : List α} (h : ∀ x ∈ l, p x = true) : l.takeWhile p = l := by
 induction l with
 | nil => rfl
 | cons a r ih =>
   rw [List.takeWhile_cons, if_pos (h a (by simp)), ih (fun x hx => h x (by simp [hx]))]
theorem Vl {n : Nat} (h : n <= 9999999) : Qv (dec n) = (2, dec n, n) := by
 obtain ⟨a1, a2, a3, a4⟩ := Nc 7 n (by have : (10 : Nat) ^ 7 = 10000000 := rfl; omega) (by decide); generalize dec n = l at *; cases l with
 | nil => simp at a3
 | cons c r =>
   have hc := a1 c (by simp); have hr : r.takeWhile digitB = r := Iu (fun x hx => a1 x (by simp [hx]))
   have hl : Ke c = false := by
    revert hc
    unfold Ke digitB; simp only [Bool.and_eq_true, decide_eq_true_eq, Bool.or_eq_false_iff, Bool.and_eq_false_iff, decide_eq_false_iff_not, UInt8.le_iff_toNat_le]; intro hc; have e1 : (57 : UInt8).toNat = 57 := rfl; have e2 : (48 : UInt8).toNat = 48 := rfl; have e3 : (97 : UInt8).toNat = 97 := rfl; have e4 : (65 : UInt8).toNat = 65 := rfl; omega
   have h2 : Qt c r = .ok (2, r.length + 1, B6 (c :: r)) := by
    unfold Qt; rw [if_neg (by simp [hl]), if_pos hc, hr]; rw [if_neg (by simp only [List.drop_length, List.head?_nil, Option.any_none]; simp at a4 ⊢; omega)]
   unfold Qv; simp only [h2, a2, if_true]
theorem Gy {n most : Nat} {t : Tok} {r : List Tok} (hn : n <= 9999999) (hm : n <= most) (h : Y5 t = Qv (dec n)) : Q6 most (t :: r) = .ok (n, r) := by
 have h1 : t.kind = 2 := by rw [Kf h, Vl hn]
 have h2 : t.n = n := by rw [qgz h, Vl hn]
 simp only [Q6]; rw [if_pos (by rw [h1]; rfl), h2, if_neg (by omega)]
def J1 (w : Qa) : List (List Qa) -> List Qa
 | [] => []
 | [a] => a
 | a :: b :: r => a ++ w :: J1 w (b :: r)
theorem Kk {α : Type} {one : List Tok -> R α} {w : Qa} {A : List Qa} {M : Nat} (hk : Oo w) (hA : w ∉ A) (wd : α -> List Qa) : ∀ (xs : List α) (n : Nat) (l rest : List Tok),
 xs ≠ [] -> xs.length <= n -> Qs (J1 w (xs.map wd)) l -> Z4 (w :: A) rest -> (l ++ rest).length <= M ->
 (∀ x ∈ xs, ∀ l' rest', Qs (wd x) l' -> Z4 A rest' -> (l' ++ rest').length <= M -> one (l' ++ rest') = .ok (x, rest')) ->
 severalL one w n (l ++ rest) = .ok (xs, rest)
 | [], n, l, rest, cI, _, _, _, _, _ => absurd rfl cI
 | [x], 0, l, rest, _, hn, _, _, _, _ => by simp at hn
 | [x], n + 1, l, rest, _, _, ht, hr, hM, ho => by
   rw [severalL, ho x (by simp) l rest ht (hr.sub (fun y hy => by simp [hy])) hM]; simp only [Qc, Jc]; rw [Xw hr (by simp)]
 | x :: y :: r, 0, l, rest, _, hn, _, _, _, _ => by simp at hn
 | x :: y :: r, n + 1, l, rest, _, hn, ht, hr, hM, ho => by
   obtain ⟨l1, l2, rfl, t1, t2⟩ := Qs.app (W1 := wd x) (W2 := w :: J1 w ((y :: r).map wd)) ht; obtain ⟨t, l3, rfl, dV, t3⟩ := t2.cons; have h1 := ho x (by simp) l1 (t :: l3 ++ rest) t1 (Z4.mk dV hA) (by simpa using hM); have h2 := Kk hk hA wd (y :: r) n l3 rest (by simp) (by simp at hn ⊢; omega) t3 hr (by simp at hM ⊢; omega) (fun z hz => ho z (by simp at hz ⊢; right; exact hz)); rw [severalL, List.append_assoc, h1]; simp only [Qc, Jc, List.cons_append]; rw [Jm dV hk (i := 0) (by simp [List.idxOf?, List.findIdx?_cons])]; simp only []; rw [h2]
theorem wKc {w : Qa} (h : ((Qv w).1 == 1 || (Qv w).1 == 3) = true) : Oo w := by
 rw [Bool.or_eq_true] at h; rcases h with h | h
 · exact Or.inl (by simpa using h)
 · exact Or.inr (by simpa using h)
