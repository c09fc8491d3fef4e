/- one: a condition of commencement; it holds conditions in brackets, so by induction on the fuel. How great a condition is that was read from so many tokens; where kids lie. bounded's closure: it measures a condition; by induction on the size. -/
import Derived.Test.YtbicmjmcdnkjhaaGreatDoorJNN27
set_option linter.unusedVariables false
set_option linter.unusedSimpArgs false
set_option maxRecDepth 20000
set_option maxHeartbeats 800000
namespace Go.Proofs.YtbicmjmcdnkjhaaGreatDoor
open Go.RowKit
def starts8 : List (List UInt8) := [[97, 108, 119, 97, 121, 115], [110, 101, 118, 101, 114], [100, 97, 121], [40], [111, 114, 100, 101, 114], [101, 118, 101, 110, 116], [98, 101, 103, 117, 110], [111, 118, 101, 114]]
theorem mustF_lt {ws : List (List UInt8)} {l r : List Tok} {i : Nat} (h : mustF ws l = .ok (i, r)) : i < ws.length ∧ r.length < l.length := by
 unfold mustF optF at h
 rcases takeF_cases ws l with ht | ⟨t, r', j, rfl, ht, -, hj⟩
 · rw [ht] at h; cases h
 · rw [ht] at h; cases h; exact ⟨idx_lt hj, by simp⟩
theorem must_out (ws : List (List UInt8)) (W : Option Addr) (n : Nat) (hn : ws.length = n) (cw : Nat) (p fin : Nat) (l : List Tok) (w : World) (hp : PS w p fin l) (hr : RdS w W ws) (hl : n ≤ 100) {K : Ending → World → Prop}
 (hk : ∀ i r w', mustF ws l = .ok (i, r) → i < n → r.length < l.length → PS w' p fin r → Eff p w w' → K (.returned (.int .i64 i)) w')
 (he : ∀ c s w', mustF ws l = .error (c, s) → Eff p w w' → K (stopE c (posAt fin s)) w') : Calls Tryz.prog 78 #[.pointer (some ⟨p, 0, none⟩), .slice W n cw] w K := by
 subst hn
 refine calls_out (must_any ws W cw p fin l w hp hr hl) (fun i r v w' hq hv h1 h2 => ?_) he
 subst hv
 exact hk i r w' hq (mustF_lt hq).1 (mustF_lt hq).2 h1 h2
theorem oneF_eq (n : Nat) (l : List Tok) : oneF (n + 1) l = bindR (mustF starts8 l) fun i r =>
 match i with
 | 0 => .ok (.mk 1 [] 0 0 [], r)
 | 1 => .ok (.mk 2 [] 0 0 [], r)
 | 2 => bindR (numberF 1000000 r) fun v r' => .ok (.mk 3 [] 0 v [], r')
 | 3 => bindR (orF (oneF n) 8 9 n r) fun f r' => bindR (mustF [[41]] r') fun _ r'' => .ok (f, r'')
 | k + 4 => bindR (nameF r) fun s r' => .ok (.mk (4 + k) s 0 0 [], r') := rfl
theorem one_step {p fin n : Nat} (hn : n ≤ 6000) (ih : ReadsT false 189 p fin n (oneF n)) : ReadsT false 189 p fin (n + 1) (oneF (n + 1)) := by
 refine ⟨fun l w hp hl => ?_, one_sane (n + 1)⟩
 have hpl := hp.lt
 have HC := Lib.hid (start_any (all_any ih (by omega)) (by omega))
 have HP := Lib.hid hp
 clear ih hp
 go_enter Tryz.func189, Tryz.ntmps189
 go_wp2_with fail
 refine must_out starts8 _ 8 rfl 8 p fin l _ (fits_alloc (fits_alloc HP.out _) _) (RdS.new (alloc_at (by simp))) (by omega) ?_ ?_
 case refine_2 =>
  intro c s w1 hq he1
  have HQ := Lib.hid hq
  clear hq
  go_wp2_with fail
  refine ⟨rfl, ?_⟩
  rw [show oneF (n + 1) l = .error (c, s) by simp only [oneF_eq, HQ.out, bindR]]
  exact ⟨rfl, (eff_alloc p w _).trans ((eff_alloc p _ _).trans he1)⟩
 case refine_1 =>
  intro i r w1 ht hi hr hp1 he1
  have HT := Lib.hid ht
  have HP1 := Lib.hid hp1
  have he := (eff_alloc p w _).trans ((eff_alloc p _ _).trans he1)
  have hres := (he1.block w.heap.size (by simp; omega) (by omega)).trans (old_at (alloc_at rfl))
  have HRES := Lib.hid hres
  have HE := Lib.hid he
  clear ht hp1 he1 he hres
  obtain rfl | rfl | rfl | rfl | ⟨k, rfl⟩ : i = 0 ∨ i = 1 ∨ i = 2 ∨ i = 3 ∨ ∃ k, i = k + 4 := by
   rcases (by omega : i = 0 ∨ i = 1 ∨ i = 2 ∨ i = 3 ∨ 4 ≤ i) with h | h | h | h | h
   · exact .inl h
   · exact .inr (.inl h)
   · exact .inr (.inr (.inl h))
   · exact .inr (.inr (.inr (.inl h)))
   · exact .inr (.inr (.inr (.inr ⟨i - 4, by omega⟩)))
  · have hres := HRES.out
    have c0 := cell_of_blk (o := 0) hres rfl
    have c1 := cell_of_blk (o := 1) hres rfl
    have c2 := cell_of_blk (o := 2) hres rfl
    have c3 := cell_of_blk (o := 3) hres rfl
    have f0 := frozen_of_blk (o := 0) hres
    have f1 := frozen_of_blk (o := 1) hres
    have f2 := frozen_of_blk (o := 2) hres
    have f3 := frozen_of_blk (o := 3) hres
    have dl := lt_of_heap' hres
    clear hres
    go_wp2_with fail
    refine bodyPost_ret (v := .agg (tcs false 1 [] 0 0 (.slice none 0 0)).toArray) (by simp [results, Tryz.results189, go_sem, tcs, *]) rfl ?_
    exact boxed (Nat.le_refl _) (RdTree.leaf 1 [] 0 0 none 0) HP1.out HE.out ((((Off.refl w.heap.size w1).set (o := 0) (.int .i64 (1 : Nat))).set (o := 1) (vs [])).set (o := 2) (.int .i64 (0 : Nat)) |>.set (o := 3) (.slice none 0 0)) hpl (show oneF (n + 1) l = .ok (.mk 1 [] 0 0 [], r) by simp only [oneF_eq, HT.out, bindR])
  · have hres := HRES.out
    have c0 := cell_of_blk (o := 0) hres rfl
    have c1 := cell_of_blk (o := 1) hres rfl
    have c2 := cell_of_blk (o := 2) hres rfl
    have c3 := cell_of_blk (o := 3) hres rfl
    have f0 := frozen_of_blk (o := 0) hres
    have f1 := frozen_of_blk (o := 1) hres
    have f2 := frozen_of_blk (o := 2) hres
    have f3 := frozen_of_blk (o := 3) hres
    have dl := lt_of_heap' hres
    clear hres
    go_wp2_with fail
    refine bodyPost_ret (v := .agg (tcs false 2 [] 0 0 (.slice none 0 0)).toArray) (by simp [results, Tryz.results189, go_sem, tcs, *]) rfl ?_
    exact boxed (Nat.le_refl _) (RdTree.leaf 2 [] 0 0 none 0) HP1.out HE.out ((((Off.refl w.heap.size w1).set (o := 0) (.int .i64 (2 : Nat))).set (o := 1) (vs [])).set (o := 2) (.int .i64 (0 : Nat)) |>.set (o := 3) (.slice none 0 0)) hpl (show oneF (n + 1) l = .ok (.mk 2 [] 0 0 [], r) by simp only [oneF_eq, HT.out, bindR])
  · go_wp2_with fail
    refine calls_out (number_any 1000000 p fin r _ HP1.out) ?_ ?_
    case refine_2 =>
     intro c s w2 hq he2
     have HQ := Lib.hid hq
     clear hq
     go_wp2_with fail
     refine ⟨rfl, ?_⟩
     rw [show oneF (n + 1) l = .error (c, s) by simp only [oneF_eq, HT.out, HQ.out, bindR]]
     exact ⟨rfl, HE.out.trans he2⟩
    case refine_1 =>
     intro m r2 v w2 hq hv hp2 he2
     subst hv
     have HQ := Lib.hid hq
     have HP2 := Lib.hid hp2
     have HE2 := Lib.hid (HE.out.trans he2)
     have hres := (he2.block w.heap.size (lt_of_heap' HRES.out) (by omega)).trans HRES.out
     have c0 := cell_of_blk (o := 0) hres rfl
     have c1 := cell_of_blk (o := 1) hres rfl
     have c2 := cell_of_blk (o := 2) hres rfl
     have c3 := cell_of_blk (o := 3) hres rfl
     have f0 := frozen_of_blk (o := 0) hres
     have f1 := frozen_of_blk (o := 1) hres
     have f2 := frozen_of_blk (o := 2) hres
     have f3 := frozen_of_blk (o := 3) hres
     have dl := lt_of_heap' hres
     clear hq hp2 he2 hres
     go_wp2_with fail
     refine bodyPost_ret (v := .agg (tcs false 3 [] 0 m (.slice none 0 0)).toArray) (by simp [results, Tryz.results189, go_sem, tcs, *]) rfl ?_
     exact boxed (Nat.le_refl _) (RdTree.leaf 3 [] 0 m none 0) HP2.out HE2.out ((((Off.refl w.heap.size w2).set (o := 0) (.int .i64 (3 : Nat))).set (o := 1) (vs [])).set (o := 2) (.int .i64 m) |>.set (o := 3) (.slice none 0 0)) hpl (show oneF (n + 1) l = .ok (.mk 3 [] 0 m [], r2) by simp only [oneF_eq, HT.out, HQ.out, bindR])
  · go_wp2_with fail
    refine HC.out.call HP1.out (by omega) ?_ ?_
    case refine_2 =>
     intro c s w2 hq he2
     have HQ := Lib.hid hq
     clear hq
     go_wp2_with fail
     refine ⟨rfl, ?_⟩
     rw [show oneF (n + 1) l = .error (c, s) by simp only [oneF_eq, HT.out, orF, andF, HQ.out, bindR]]
     exact ⟨rfl, HE.out.trans he2⟩
    case refine_1 =>
     intro t r2 v w2 hq hv hp2 he2 hr2
     obtain ⟨cs, rfl, hrt⟩ := hv
     have HRT := Lib.hid hrt
     obtain ⟨o1, name, cm, m, ks⟩ := t
     obtain ⟨A, cap, rfl, -, -⟩ := hrt
     simp only [tcs]
     have HQ := Lib.hid hq
     have HP2 := Lib.hid hp2
     have HE2 := Lib.hid (HE.out.trans he2)
     have hs := he2.size
     have hres := (he2.block w.heap.size (lt_of_heap' HRES.out) (by omega)).trans HRES.out
     have z2 := lt_of_heap' hres
     have HRES2 := Lib.hid hres
     clear hq hp2 he2 hres
     go_wp2_with fail
     refine must_out [[41]] _ 1 rfl 1 p fin r2 _ (fits_alloc (fits_alloc HP2.out _) _) (RdS.new (alloc_at (by simp))) (by simp) ?_ ?_
     case refine_2 =>
      intro c s w3 hq3 he3
      have HQ3 := Lib.hid hq3
      clear hq3
      go_wp2_with fail
      refine ⟨rfl, ?_⟩
      rw [show oneF (n + 1) l = .error (c, s) by simp only [oneF_eq, HT.out, orF, andF, HQ.out, HQ3.out, bindR]]
      exact ⟨rfl, HE2.out.trans ((eff_alloc p _ _).trans ((eff_alloc p _ _).trans he3))⟩
     case refine_1 =>
      intro i3 r3 w3 hq3 hi3 hr3 hp3 he3
      have HQ3 := Lib.hid hq3
      have HP3 := Lib.hid hp3
      have h1 : ¬ w.heap.size = w2.heap.size := by omega
      have h2 : ¬ w2.heap.size = w.heap.size := by omega
      have hf := (he3.block w2.heap.size (by simp; omega) (by omega)).trans (old_at (alloc_at rfl))
      have hres := (he3.block w.heap.size (by simp; omega) (by omega)).trans (old_at (old_at HRES2.out))
      have HE3 := Lib.hid (HE2.out.trans ((eff_alloc p _ _).trans ((eff_alloc p _ _).trans he3)))
      have hz1 := lt_of_heap' HRES.out
      have HRT3 := Lib.hid ((HRT.out.eff (eff_alloc p _ (.cells #[.int .i64 o1, vs name, .int .i64 m, .slice A ks.length cap] 28 (0, 0))) (by omega)).eff ((eff_alloc p _ _).trans he3) (by omega))
      have e0 := cell_of_blk (o := 0) hf rfl
      have e1 := cell_of_blk (o := 1) hf rfl
      have e2 := cell_of_blk (o := 2) hf rfl
      have e3 := cell_of_blk (o := 3) hf rfl
      have fl := lt_of_heap' hf
      have c0 := cell_of_blk (o := 0) hres rfl
      have c1 := cell_of_blk (o := 1) hres rfl
      have c2 := cell_of_blk (o := 2) hres rfl
      have c3 := cell_of_blk (o := 3) hres rfl
      have f0 := frozen_of_blk (o := 0) hres
      have f1 := frozen_of_blk (o := 1) hres
      have f2 := frozen_of_blk (o := 2) hres
      have f3 := frozen_of_blk (o := 3) hres
      have dl := lt_of_heap' hres
      clear hq3 hp3 he3 hf hres
      go_wp2_with fail
      refine bodyPost_ret (v := .agg (tcs false o1 name cm m (.slice A ks.length cap)).toArray) (by simp [results, Tryz.results189, go_sem, tcs, *]) rfl ?_
      exact boxed (Nat.le_refl _) (HRT3.out.keep (Nat.le_refl _) (fun b hb _ => ⟨by omega, rfl⟩)) HP3.out HE3.out ((((Off.refl w.heap.size w3).set (o := 0) (.int .i64 o1)).set (o := 1) (vs name)).set (o := 2) (.int .i64 m) |>.set (o := 3) (.slice A ks.length cap)) hpl (show oneF (n + 1) l = .ok (.mk o1 name cm m ks, r3) by simp only [oneF_eq, HT.out, orF, andF, HQ.out, HQ3.out, bindR])
  · have y0 : (((k + 4 : Nat) : Int) == 0) = false := by simp; omega
    have y1 : (((k + 4 : Nat) : Int) == 1) = false := by simp; omega
    have y2 : (((k + 4 : Nat) : Int) == 2) = false := by simp; omega
    have y3 : (((k + 4 : Nat) : Int) == 3) = false := by simp; omega
    go_wp2_with fail
    refine calls_out (name_any p fin r _ HP1.out) ?_ ?_
    case refine_2 =>
     intro c s w2 hq he2
     have HQ := Lib.hid hq
     clear hq
     go_wp2_with fail
     refine ⟨rfl, ?_⟩
     rw [show oneF (n + 1) l = .error (c, s) by simp only [oneF_eq, HT.out, HQ.out, bindR]]
     exact ⟨rfl, HE.out.trans he2⟩
    case refine_1 =>
     intro s r2 v w2 hq hv hp2 he2
     subst hv
     have HQ := Lib.hid hq
     have HP2 := Lib.hid hp2
     have HE2 := Lib.hid (HE.out.trans he2)
     have hres := (he2.block w.heap.size (lt_of_heap' HRES.out) (by omega)).trans HRES.out
     have c0 := cell_of_blk (o := 0) hres rfl
     have c1 := cell_of_blk (o := 1) hres rfl
     have c2 := cell_of_blk (o := 2) hres rfl
     have c3 := cell_of_blk (o := 3) hres rfl
     have f0 := frozen_of_blk (o := 0) hres
     have f1 := frozen_of_blk (o := 1) hres
     have f2 := frozen_of_blk (o := 2) hres
     have f3 := frozen_of_blk (o := 3) hres
     have dl := lt_of_heap' hres
     clear hq hp2 he2 hres
     go_wp2_with fail
     refine bodyPost_ret (v := .agg (tcs false (4 + k) s 0 0 (.slice none 0 0)).toArray) (by simp [results, Tryz.results189, go_sem, tcs, *]; omega) rfl ?_
     exact boxed (Nat.le_refl _) (RdTree.leaf (4 + k) s 0 0 none 0) HP2.out HE2.out ((((Off.refl w.heap.size w2).set (o := 0) _).set (o := 1) _).set (o := 2) _ |>.set (o := 3) _) hpl (show oneF (n + 1) l = .ok (.mk (4 + k) s 0 0 [], r2) by simp only [oneF_eq, HT.out, HQ.out, bindR])
theorem one_any {p fin : Nat} : ∀ n, n ≤ 6001 → ReadsT false 189 p fin n (oneF n)
 | 0, _ => ⟨fun l w _ h => absurd h (Nat.not_lt_zero _), sane_zero⟩
 | n + 1, h => one_step (by omega) (one_any n (by omega))
theorem startF_any {p fin : Nat} (n : Nat) (hn : n ≤ 6001) : ReadsT false 127 p fin n (startF n) := start_any (all_any (one_any n hn) hn) hn
end Go.Proofs.YtbicmjmcdnkjhaaGreatDoor
namespace Go.Proofs.YtbicmjmcdnkjhaaGreatDoor
open Go.RowKit
def Siz (P : List Tok → R Tree) : Prop := ∀ l t r, P l = .ok (t, r) → t.size + 2 * r.length + 1 ≤ 2 * l.length
theorem takeF_len {ws : List (List UInt8)} {l r : List Tok} {i : Nat} (h : takeF ws l = (some i, r)) : r.length + 1 = l.length := by
 rcases takeF_cases ws l with ht | ⟨t, r', j, rfl, ht, -, -⟩
 · rw [ht] at h; cases h
 · rw [ht] at h; cases h; rfl
theorem takeF_none {ws : List (List UInt8)} {l r : List Tok} (h : takeF ws l = (none, r)) : r = l := by
 rcases takeF_cases ws l with ht | ⟨t, r', j, rfl, ht, -, -⟩
 · rw [ht] at h; cases h; rfl
 · rw [ht] at h; cases h
theorem nameF_len {l r : List Tok} {s : List UInt8} (h : nameF l = .ok (s, r)) : r.length + 1 = l.length := by
 unfold nameF at h
 split at h
 · cases h
 · split at h
   · cases h; rfl
   · cases h
theorem numberF_len {m v : Nat} {l r : List Tok} (h : numberF m l = .ok (v, r)) : r.length + 1 = l.length := by
 unfold numberF at h
 split at h
 · cases h
 · split at h
   · split at h
     · cases h
     · cases h; rfl
   · cases h
theorem mustF_len {ws : List (List UInt8)} {l r : List Tok} {i : Nat} (h : mustF ws l = .ok (i, r)) : r.length + 1 = l.length := by
 unfold mustF optF at h
 rcases takeF_cases ws l with ht | ⟨t, r', j, rfl, ht, -, hj⟩
 · rw [ht] at h; cases h
 · rw [ht] at h; cases h; rfl
theorem bindR_ok {α β : Type} {x : R α} {f : α → List Tok → R β} {y : β × List Tok} (h : bindR x f = .ok y) : ∃ a r, x = .ok (a, r) ∧ f a r = .ok y := by
 cases x with
 | error e => cases h
 | ok v => exact ⟨v.1, v.2, rfl, h⟩
theorem severalL_size {one : List Tok → R Tree} (w : List UInt8) (h : Siz one) : ∀ (n : Nat) (l : List Tok) (xs : List Tree) (r : List Tok), severalL one w n l = .ok (xs, r) → xs ≠ [] ∧ sizes xs + 3 * xs.length + 2 * r.length ≤ 2 * l.length + 2
 | 0, l, xs, r, hx => by cases hx
 | n + 1, l, xs, r, hx => by
   obtain ⟨x, r1, h1, h2⟩ := bindR_ok hx
   have s1 := h _ _ _ h1
   unfold optF at h2
   cases ht : takeF [w] r1 with
   | mk a r2 =>
     rw [ht] at h2
     cases a with
     | none =>
       cases h2
       have := takeF_none ht
       subst this
       refine ⟨by simp, ?_⟩
       simp [sizes]
       omega
     | some i =>
       have s2 := takeF_len ht
       obtain ⟨ys, r3, h3, h4⟩ := bindR_ok h2
       cases h4
       have s3 := (severalL_size w h n _ _ _ h3).2
       refine ⟨by simp, ?_⟩
       simp only [sizes, List.length_cons]
       omega
theorem joinT_size (op : Nat) {xs : List Tree} (h : xs ≠ []) : (joinT op xs).size + 1 ≤ sizes xs + 3 * xs.length - 2 := by
 cases xs with
 | nil => exact absurd rfl h
 | cons x ys =>
   cases ys with
   | nil => simp [joinT, sizes]
   | cons y zs =>
     show (Tree.mk op [] 0 0 (x :: y :: zs)).size + 1 ≤ _
     simp only [Tree.size, sizes, List.length_cons]
     omega
theorem Siz.severalF {one : List Tok → R Tree} (w : List UInt8) (op n : Nat) (h : Siz one) : Siz (severalF one w op n) := by
 intro l t r ht
 obtain ⟨xs, r1, h1, h2⟩ := bindR_ok ht
 cases h2
 obtain ⟨hne, hs⟩ := severalL_size w h n l xs _ h1
 have := joinT_size op hne
 have : 0 < xs.length := List.length_pos_iff.2 hne
 omega
theorem atom_size : ∀ n, Siz (atomF n)
 | 0 => fun l t r h => by cases h
 | n + 1 => fun l t r h => by
   have ih := atom_size n
   unfold atomF optF at h
   cases ht : takeF [[110, 111, 116], [40], [116, 114, 117, 101], [102, 97, 108, 115, 101]] l with
   | mk a r1 =>
     rw [ht] at h
     cases a with
     | none =>
       have := takeF_none ht
       subst this
       obtain ⟨s, r2, h1, h2⟩ := bindR_ok h
       have s1 := nameF_len h1
       cases ht2 : takeF [[61], [33, 61], [60], [60, 61], [62], [62, 61]] r2 with
       | mk b r3 =>
         rw [ht2] at h2
         cases b with
         | none =>
           have := takeF_none ht2
           subst this
           cases h2
           simp [Tree.size, sizes]
           omega
         | some c =>
           have s2 := takeF_len ht2
           obtain ⟨v, r4, h3, h4⟩ := bindR_ok h2
           cases h4
           have s3 := numberF_len h3
           simp [Tree.size, sizes]
           omega
     | some i =>
       have s1 := takeF_len ht
       match i, h with
       | 0, h =>
         obtain ⟨f, r2, h1, h2⟩ := bindR_ok h
         cases h2
         have := ih _ _ _ h1
         simp only [Tree.size, sizes]
         omega
       | 1, h =>
         obtain ⟨f, r2, h1, h2⟩ := bindR_ok h
         obtain ⟨j, r3, h3, h4⟩ := bindR_ok h2
         cases h4
         have := (Siz.severalF [111, 114] 7 n (Siz.severalF [97, 110, 100] 6 n ih)) _ _ _ h1
         have := mustF_len h3
         omega
       | 2, h => cases h; simp [Tree.size, sizes]; omega
       | k + 3, h => cases h; simp [Tree.size, sizes]; omega
theorem one_size : ∀ n, Siz (oneF n)
 | 0 => fun l t r h => by cases h
 | n + 1 => fun l t r h => by
   have ih := one_size n
   rw [oneF_eq] at h
   obtain ⟨i, r1, h0, h⟩ := bindR_ok h
   have s1 := mustF_len h0
   match i, h with
   | 0, h => cases h; simp [Tree.size, sizes]; omega
   | 1, h => cases h; simp [Tree.size, sizes]; omega
   | 2, h =>
     obtain ⟨v, r2, h1, h2⟩ := bindR_ok h
     cases h2
     have := numberF_len h1
     simp [Tree.size, sizes]; omega
   | 3, h =>
     obtain ⟨f, r2, h1, h2⟩ := bindR_ok h
     obtain ⟨j, r3, h3, h4⟩ := bindR_ok h2
     cases h4
     have := (Siz.severalF [111, 114] 9 n (Siz.severalF [97, 110, 100] 8 n ih)) _ _ _ h1
     have := mustF_len h3
     omega
   | k + 4, h =>
     obtain ⟨s, r2, h1, h2⟩ := bindR_ok h
     cases h2
     have := nameF_len h1
     simp [Tree.size, sizes]; omega
theorem condF_size (n : Nat) : Siz (condF n) := Siz.severalF _ _ _ (Siz.severalF _ _ _ (atom_size n))
theorem startF_size (n : Nat) : Siz (startF n) := Siz.severalF _ _ _ (Siz.severalF _ _ _ (one_size n))
theorem sizes_app (l : List Tree) (t : Tree) : sizes (l ++ [t]) = sizes l + t.size := by
 induction l with
 | nil => simp [sizes]
 | cons x l ih => simp only [List.cons_append, sizes, ih]; omega
theorem deeps_snoc (l : List Tree) (t : Tree) : deeps (l ++ [t]) = max (deeps l) t.deep := by
 induction l with
 | nil => simp [deeps]
 | cons x l ih => simp only [List.cons_append, deeps, ih]; omega
mutual
theorem deep_le_size : ∀ t : Tree, t.deep ≤ t.size
 | .mk op name cmp n ks => by
   have := deeps_le_sizes ks
   simp only [Tree.deep, Tree.size]
   omega
theorem deeps_le_sizes : ∀ l : List Tree, deeps l ≤ sizes l
 | [] => Nat.le_refl _
 | t :: r => by
   have := deep_le_size t
   have := deeps_le_sizes r
   simp only [deeps, sizes]
   omega
end
theorem size_pos (t : Tree) : 1 ≤ t.size := by cases t; simp [Tree.size]
theorem len_le_sizes : ∀ l : List Tree, l.length ≤ sizes l
 | [] => Nat.le_refl _
 | t :: r => by
   have := len_le_sizes r
   have := size_pos t
   simp only [sizes, List.length_cons]
   omega
theorem take_snoc {α : Type} {l : List α} {k : Nat} {x : α} (h : l[k]? = some x) : l.take (k + 1) = l.take k ++ [x] := by
 rw [List.take_add_one, h]; rfl
theorem sizes_take {l : List Tree} {k : Nat} {t : Tree} (h : l[k]? = some t) : sizes (l.take (k + 1)) = sizes (l.take k) + t.size := by rw [take_snoc h, sizes_app]
theorem deeps_take {l : List Tree} {k : Nat} {t : Tree} (h : l[k]? = some t) : deeps (l.take (k + 1)) = max (deeps (l.take k)) t.deep := by rw [take_snoc h, deeps_snoc]
theorem sizes_take_le (l : List Tree) (k : Nat) : sizes (l.take k) ≤ sizes l := by
 induction l generalizing k with
 | nil => simp [sizes]
 | cons x l ih =>
   cases k with
   | zero => simp [sizes]
   | succ k => simp only [List.take_succ_cons, sizes]; have := ih k; omega
/- a kid -/
theorem RdKids.get {fm : Bool} {S : Nat → Prop} {w : World} {b : Nat} : ∀ {ks : List Tree} {o k : Nat} {t : Tree}, RdKids fm S w b o ks → ks[k]? = some t → ∃ cs : List Value, (∀ j v, cs[j]? = some v → w.cell? ⟨b, o + k * tsz fm + j, none⟩ = some v) ∧ RdTree fm S w cs t
 | [], o, k, t, h, hk => by simp at hk
 | x :: ks, o, 0, t, h, hk => by
   simp at hk
   subst hk
   obtain ⟨⟨cs, h1, h2⟩, -⟩ := h
   exact ⟨cs, fun j v hv => by rw [Nat.zero_mul, Nat.add_zero]; exact h1 j v hv, h2⟩
 | x :: ks, o, k + 1, t, h, hk => by
   obtain ⟨cs, h1, h2⟩ := RdKids.get (k := k) h.2 (by simpa using hk)
   refine ⟨cs, fun j v hv => ?_, h2⟩
   have := h1 j v hv
   rwa [show o + (k + 1) * tsz fm + j = o + tsz fm + k * tsz fm + j by rw [Nat.add_mul]; omega]
end Go.Proofs.YtbicmjmcdnkjhaaGreatDoor
set_option maxRecDepth 20000
set_option maxHeartbeats 800000
namespace Go.Proofs.YtbicmjmcdnkjhaaGreatDoor
open Go.RowKit
theorem mk_size_add (op : Nat) (name : List UInt8) (cm m : Nat) (ks : List Tree) (s : Nat) : s + (Tree.mk op name cm m ks).size = s + 1 + sizes ks := by simp only [Tree.size]; omega
theorem mk_deep_ret (op : Nat) (name : List UInt8) (cm m : Nat) (ks : List Tree) : Ending.returned (.int .i64 ((deeps ks : Int) + 1)) = .returned (.int .i64 ((Tree.mk op name cm m ks).deep : Int)) := by simp [Tree.deep]
theorem max_cast (a b : Nat) : max (a : Int) (b : Int) = ((max a b : Nat) : Int) := by omega
theorem wrap64_nat {k : Nat} (h : k < 9000000) : wrap64 ((k : Int) + 1) = ((k + 1 : Nat) : Int) := by unfold wrap64; omega
structure KidsT (fm : Bool) (f : FuncId) : Prop where
 go : ∀ op name cmp n A m c w, Calls Tryz.prog f #[.agg (tcs fm op name cmp n (.slice A m c)).toArray] w fun e w' => e = .returned (.slice A m c) ∧ Below w.heap.size w w'
/- the boxes of the closure -/
structure Boxes (w : World) (fk fd : FuncId) (sb kb db s : Nat) : Prop where
 size : ∃ ty, w.heap[sb]? = some (.cells #[.int .i64 s] ty (0, 0))
 kids : ∃ ty, w.heap[kb]? = some (.cells #[.func (.func fk) #[] #[]] ty (0, 0))
 deep : ∃ ty, w.heap[db]? = some (.cells #[.func (.func fd) #[] #[.pointer (some ⟨sb, 0, none⟩), .pointer (some ⟨kb, 0, none⟩), .pointer (some ⟨db, 0, none⟩)]] ty (0, 0))
 nk : kb ≠ sb
 nd : db ≠ sb
theorem Boxes.grow {w w' : World} {fk fd : FuncId} {sb kb db s : Nat} (h : Boxes w fk fd sb kb db s) (hb : Below w.heap.size w w') : Boxes w' fk fd sb kb db s := by
 obtain ⟨⟨t1, h1⟩, ⟨t2, h2⟩, ⟨t3, h3⟩, h4, h5⟩ := h
 exact ⟨⟨t1, (hb.block _ (lt_of_heap' h1)).trans h1⟩, ⟨t2, (hb.block _ (lt_of_heap' h2)).trans h2⟩, ⟨t3, (hb.block _ (lt_of_heap' h3)).trans h3⟩, h4, h5⟩
theorem Boxes.put {w : World} {fk fd : FuncId} {sb kb db s : Nat} (h : Boxes w fk fd sb kb db s) {i : Int} {v : Nat} (hi : i = v) : Boxes (w.setCell ⟨sb, 0, none⟩ (.int .i64 i)) fk fd sb kb db v := by
 subst hi
 obtain ⟨⟨t1, h1⟩, ⟨t2, h2⟩, ⟨t3, h3⟩, h4, h5⟩ := h
 exact ⟨⟨t1, row_setCell h1⟩, ⟨t2, (Below.heap_setCell _ _ _ _ (by simpa using h4)).trans h2⟩, ⟨t3, (Below.heap_setCell _ _ _ _ (by simpa using h5)).trans h3⟩, h4, h5⟩
def Meas (sb : Nat) (w : World) (fk fd : FuncId) (kb db s : Nat) (t : Tree) (e : Ending) (w' : World) : Prop :=
 e = .returned (.int .i64 t.deep) ∧ Boxes w' fk fd sb kb db (s + t.size) ∧ Eff sb w w'
theorem deep_f (fk : FuncId) (hk : KidsT true fk) (hek : Enters fk) (sb kb db : Nat) : ∀ (N : Nat) (t : Tree) (s : Nat) (cs : List Value) (w : World), t.size ≤ N → t.size + s ≤ 1000000 → Boxes w fk 121 sb kb db s → RdTree true (fun k => k ≠ sb) w cs t →
 Calls Tryz.prog 121 #[.agg cs.toArray, .pointer (some ⟨sb, 0, none⟩), .pointer (some ⟨kb, 0, none⟩), .pointer (some ⟨db, 0, none⟩)] w (Meas sb w fk 121 kb db s t) := by
 intro N
 induction N with
 | zero =>
   intro t s cs w hN
   cases t
   simp [Tree.size] at hN
 | succ N ih =>
   intro t s cs w hN hs hbx hrt
   have IH := Lib.hid ih
   have HK := Lib.hid hk
   have HEK := Lib.hid hek
   have HBX := Lib.hid hbx
   have HRT := Lib.hid hrt
   obtain ⟨op, name, cm, m, ks⟩ := t
   obtain ⟨A, cap, rfl, hcap, hkids⟩ := hrt
   have HKIDS := Lib.hid hkids
   simp only [Tree.size] at hN hs
   simp only [tcs]
   obtain ⟨⟨t1, hb1⟩, ⟨t2, hb2⟩, ⟨t3, hb3⟩, n1, n2⟩ := hbx
   have c1 := cell_of_blk (o := 0) hb1 rfl
   have g1 := frozen_of_blk (o := 0) hb1
   have l1 := lt_of_heap' hb1
   have c2 := cell_of_blk (o := 0) hb2 rfl
   have l2 := lt_of_heap' hb2
   have c3 := cell_of_blk (o := 0) hb3 rfl
   have l3 := lt_of_heap' hb3
   clear ih hk hek hkids hb1 hb2 hb3 hcap
   go_enter Tryz.func121, Tryz.ntmps121
   go_wp2_with fail
   have HX1 := Lib.hid ((HBX.out.put (i := (s : Int) + 1) (v := s + 1) (by simp)).grow ((Below.refl _ _).alloc (Nat.le_refl _) (.cells (tcs true op name cm m (.slice A ks.length cap)).toArray 24 (0, 0))))
   have HE1 := Lib.hid (((Eff.refl sb w).setCell ⟨sb, 0, none⟩ (.inl rfl) (.int .i64 ((s : Int) + 1))).alloc (.cells (tcs true op name cm m (.slice A ks.length cap)).toArray 24 (0, 0)))
   rw [HEK.out, Oper.upon_enter]
   refine (HK.out.go op name cm m A ks.length cap _).mono ?_
   rintro e w2 ⟨rfl, hb2⟩
   have HX2 := Lib.hid (HX1.out.grow hb2)
   have HE2 := Lib.hid (HE1.out.trans (Eff.of_below hb2))
   clear c1 g1 c2 c3 hb2 HX1 HE1
   go_wp2_with fail
   go_loopw [6, 15] (fun v6 v15 wr => ∃ k : Nat, k ≤ ks.length ∧ v15 = .int .i64 k ∧ v6 = .int .i64 (deeps (ks.take k)) ∧ Boxes wr fk 121 sb kb db (s + 1 + sizes (ks.take k)) ∧ Eff sb w wr) (fun v6 v15 _ => ks.length - (intOf v15).toNat)
   case atStart => exact ⟨0, Nat.zero_le _, rfl, rfl, HX2.out, HE2.out⟩
   case round =>
    obtain ⟨k, hkl, rfl, rfl, hbx, hef⟩ := hrel
    have hsz := sizes_take_le ks k
    have hdz := deeps_le_sizes (ks.take k)
    have HBXR := Lib.hid hbx
    have HEFR := Lib.hid hef
    obtain ⟨⟨t1, hb1⟩, ⟨t2, hb2⟩, ⟨t3, hb3⟩, -, -⟩ := hbx
    have c1 := cell_of_blk (o := 0) hb1 rfl
    have l1' := lt_of_heap' hb1
    have c3 := cell_of_blk (o := 0) hb3 rfl
    have l3' := lt_of_heap' hb3
    clear hb1 hb2 hb3 hef HX2 HE2
    by_cases hlt : k < ks.length
    · obtain ⟨t, ht⟩ := get_of_lt hlt
      have HT := Lib.hid ht
      have hst := sizes_take ht
      have hst2 := sizes_take_le ks (k + 1)
      have hdt := deep_le_size t
      obtain h0 | ⟨b, off, rfl, hbs, hbl, hkd⟩ := HKIDS.out
      · rw [h0] at hlt; simp at hlt
      obtain ⟨cs, hcs, hrt⟩ := (hkd.keep HEFR.out.size (fun b hb hlt => ⟨hb, HEFR.out.block b hlt hb⟩) (HEFR.out.block b hbl hbs)).get ht
      have HRTK := Lib.hid hrt
      obtain ⟨op', nm', cm', m', ks'⟩ := t
      obtain ⟨A', cap', rfl, -, -⟩ := hrt
      have e0 : wr.cell? ⟨b, off + k * 5, none⟩ = some (.int .i64 op') := hcs 0 _ rfl
      have e1 : wr.cell? ⟨b, off + k * 5 + 1, none⟩ = some (vs nm') := hcs 1 _ rfl
      have e2 : wr.cell? ⟨b, off + k * 5 + 2, none⟩ = some (.int .i64 cm') := hcs 2 _ rfl
      have e3 : wr.cell? ⟨b, off + k * 5 + 3, none⟩ = some (.int .i64 m') := hcs 3 _ rfl
      have e4 : wr.cell? ⟨b, off + k * 5 + 4, none⟩ = some (.slice A' ks'.length cap') := hcs 4 _ rfl
      have hk1 : (k : Int) < ks.length := by omega
      clear ht hkd hcs
      go_wp2_with fail
      refine (IH.out (.mk op' nm' cm' m' ks') (s + 1 + sizes (ks.take k)) (tcs true op' nm' cm' m' (.slice A' ks'.length cap')) _ (by omega) (by omega) (HBXR.out.grow ((Below.refl _ _).alloc (Nat.le_refl _) _)) (HRTK.out.keep (by simp) (fun b hb hlt => ⟨hb, Below.heap_alloc _ _ _ hlt⟩))).mono ?_
      rintro e w3 ⟨rfl, hbx3, he3⟩
      have HBX3 := Lib.hid hbx3
      have HE3 := Lib.hid he3
      have HST := Lib.hid hst
      have HDT := Lib.hid (deeps_take HT.out)
      clear hbx3 he3 hst hsz hst2 c1 c3
      go_wp2_with fail
      have hln := len_le_sizes ks
      have hwk := wrap64_nat (k := k) (by omega)
      have hk2 : k + 1 ≤ ks.length := hlt
      have hmx : (Value.int .i64 (max (deeps (ks.take k) : Int) ((Tree.mk op' nm' cm' m' ks').deep : Int))) = .int .i64 (deeps (ks.take (k + 1)) : Int) := by rw [HDT.out, max_cast]
      rw [hwk]
      refine ⟨⟨k + 1, hk2, rfl, hmx, ?_, ?_⟩, ?_⟩
      · rw [HST.out, ← Nat.add_assoc (s + 1)]; exact HBX3.out
      · exact HEFR.out.trans ((eff_alloc sb _ _).trans HE3.out)
      · exact Nat.sub_lt_sub_left hlt (Nat.lt_succ_self k)
    · have : k = ks.length := by omega
      subst this
      have hdk := deeps_le_sizes ks
      simp only [List.take_length] at HBXR ⊢
      go_wp2_with fail
      go_ret
      exact ⟨mk_deep_ret op name cm m ks, by rw [mk_size_add]; exact HBXR.out, HEFR.out⟩
theorem deep_s (fk : FuncId) (hk : KidsT false fk) (hek : Enters fk) (sb kb db : Nat) : ∀ (N : Nat) (t : Tree) (s : Nat) (cs : List Value) (w : World), t.size ≤ N → t.size + s ≤ 1000000 → Boxes w fk 165 sb kb db s → RdTree false (fun k => k ≠ sb) w cs t →
 Calls Tryz.prog 165 #[.agg cs.toArray, .pointer (some ⟨sb, 0, none⟩), .pointer (some ⟨kb, 0, none⟩), .pointer (some ⟨db, 0, none⟩)] w (Meas sb w fk 165 kb db s t) := by
 intro N
 induction N with
 | zero =>
   intro t s cs w hN
   cases t
   simp [Tree.size] at hN
 | succ N ih =>
   intro t s cs w hN hs hbx hrt
   have IH := Lib.hid ih
   have HK := Lib.hid hk
   have HEK := Lib.hid hek
   have HBX := Lib.hid hbx
   have HRT := Lib.hid hrt
   obtain ⟨op, name, cm, m, ks⟩ := t
   obtain ⟨A, cap, rfl, hcap, hkids⟩ := hrt
   have HKIDS := Lib.hid hkids
   simp only [Tree.size] at hN hs
   simp only [tcs]
   obtain ⟨⟨t1, hb1⟩, ⟨t2, hb2⟩, ⟨t3, hb3⟩, n1, n2⟩ := hbx
   have c1 := cell_of_blk (o := 0) hb1 rfl
   have g1 := frozen_of_blk (o := 0) hb1
   have l1 := lt_of_heap' hb1
   have c2 := cell_of_blk (o := 0) hb2 rfl
   have l2 := lt_of_heap' hb2
   have c3 := cell_of_blk (o := 0) hb3 rfl
   have l3 := lt_of_heap' hb3
   clear ih hk hek hkids hb1 hb2 hb3 hcap
   go_enter Tryz.func165, Tryz.ntmps165
   go_wp2_with fail
   have HX1 := Lib.hid ((HBX.out.put (i := (s : Int) + 1) (v := s + 1) (by simp)).grow ((Below.refl _ _).alloc (Nat.le_refl _) (.cells (tcs false op name cm m (.slice A ks.length cap)).toArray 28 (0, 0))))
   have HE1 := Lib.hid (((Eff.refl sb w).setCell ⟨sb, 0, none⟩ (.inl rfl) (.int .i64 ((s : Int) + 1))).alloc (.cells (tcs false op name cm m (.slice A ks.length cap)).toArray 28 (0, 0)))
   rw [HEK.out, Oper.upon_enter]
   refine (HK.out.go op name cm m A ks.length cap _).mono ?_
   rintro e w2 ⟨rfl, hb2⟩
   have HX2 := Lib.hid (HX1.out.grow hb2)
   have HE2 := Lib.hid (HE1.out.trans (Eff.of_below hb2))
   clear c1 g1 c2 c3 hb2 HX1 HE1
   go_wp2_with fail
   go_loopw [6, 15] (fun v6 v15 wr => ∃ k : Nat, k ≤ ks.length ∧ v15 = .int .i64 k ∧ v6 = .int .i64 (deeps (ks.take k)) ∧ Boxes wr fk 165 sb kb db (s + 1 + sizes (ks.take k)) ∧ Eff sb w wr) (fun v6 v15 _ => ks.length - (intOf v15).toNat)
   case atStart => exact ⟨0, Nat.zero_le _, rfl, rfl, HX2.out, HE2.out⟩
   case round =>
    obtain ⟨k, hkl, rfl, rfl, hbx, hef⟩ := hrel
    have hsz := sizes_take_le ks k
    have hdz := deeps_le_sizes (ks.take k)
    have HBXR := Lib.hid hbx
    have HEFR := Lib.hid hef
    obtain ⟨⟨t1, hb1⟩, ⟨t2, hb2⟩, ⟨t3, hb3⟩, -, -⟩ := hbx
    have c1 := cell_of_blk (o := 0) hb1 rfl
    have l1' := lt_of_heap' hb1
    have c3 := cell_of_blk (o := 0) hb3 rfl
    have l3' := lt_of_heap' hb3
    clear hb1 hb2 hb3 hef HX2 HE2
    by_cases hlt : k < ks.length
    · obtain ⟨t, ht⟩ := get_of_lt hlt
      have HT := Lib.hid ht
      have hst := sizes_take ht
      have hst2 := sizes_take_le ks (k + 1)
      have hdt := deep_le_size t
      obtain h0 | ⟨b, off, rfl, hbs, hbl, hkd⟩ := HKIDS.out
      · rw [h0] at hlt; simp at hlt
      obtain ⟨cs, hcs, hrt⟩ := (hkd.keep HEFR.out.size (fun b hb hlt => ⟨hb, HEFR.out.block b hlt hb⟩) (HEFR.out.block b hbl hbs)).get ht
      have HRTK := Lib.hid hrt
      obtain ⟨op', nm', cm', m', ks'⟩ := t
      obtain ⟨A', cap', rfl, -, -⟩ := hrt
      have e0 : wr.cell? ⟨b, off + k * 4, none⟩ = some (.int .i64 op') := hcs 0 _ rfl
      have e1 : wr.cell? ⟨b, off + k * 4 + 1, none⟩ = some (vs nm') := hcs 1 _ rfl
      have e2 : wr.cell? ⟨b, off + k * 4 + 2, none⟩ = some (.int .i64 m') := hcs 2 _ rfl
      have e3 : wr.cell? ⟨b, off + k * 4 + 3, none⟩ = some (.slice A' ks'.length cap') := hcs 3 _ rfl
      have hk1 : (k : Int) < ks.length := by omega
      clear ht hkd hcs
      go_wp2_with fail
      refine (IH.out (.mk op' nm' cm' m' ks') (s + 1 + sizes (ks.take k)) (tcs false op' nm' cm' m' (.slice A' ks'.length cap')) _ (by omega) (by omega) (HBXR.out.grow ((Below.refl _ _).alloc (Nat.le_refl _) _)) (HRTK.out.keep (by simp) (fun b hb hlt => ⟨hb, Below.heap_alloc _ _ _ hlt⟩))).mono ?_
      rintro e w3 ⟨rfl, hbx3, he3⟩
      have HBX3 := Lib.hid hbx3
      have HE3 := Lib.hid he3
      have HST := Lib.hid hst
      have HDT := Lib.hid (deeps_take HT.out)
      clear hbx3 he3 hst hsz hst2 c1 c3
      go_wp2_with fail
      have hln := len_le_sizes ks
      have hwk := wrap64_nat (k := k) (by omega)
      have hk2 : k + 1 ≤ ks.length := hlt
      have hmx : (Value.int .i64 (max (deeps (ks.take k) : Int) ((Tree.mk op' nm' cm' m' ks').deep : Int))) = .int .i64 (deeps (ks.take (k + 1)) : Int) := by rw [HDT.out, max_cast]
      rw [hwk]
      refine ⟨⟨k + 1, hk2, rfl, hmx, ?_, ?_⟩, ?_⟩
      · rw [HST.out, ← Nat.add_assoc (s + 1)]; exact HBX3.out
      · exact HEFR.out.trans ((eff_alloc sb _ _).trans HE3.out)
      · exact Nat.sub_lt_sub_left hlt (Nat.lt_succ_self k)
    · have : k = ks.length := by omega
      subst this
      have hdk := deeps_le_sizes ks
      simp only [List.take_length] at HBXR ⊢
      go_wp2_with fail
      go_ret
      exact ⟨mk_deep_ret op name cm m ks, by rw [mk_size_add]; exact HBXR.out, HEFR.out⟩
end Go.Proofs.YtbicmjmcdnkjhaaGreatDoor
