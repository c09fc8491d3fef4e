/- one: a condition of commencement; it holds conditions in brackets, so by induction on the fuel. -/
import Derived.Test.YtpagkakplmeokaaDoorNAtom
set_option linter.unusedVariables false
set_option linter.unusedSimpArgs false
namespace Go.Proofs.YtpagkakplmeokaaDoor
open Go.RowKit
def starts8 : List (List UInt8) := [[97, 108, 119, 97, 121, 115], [110, 101, 118, 101, 114], [100, 97, 121], [40], [111, 114, 100, 101, 114], [101, 118, 101, 110, 116], [98, 101, 103, 117, 110], [111, 118, 101, 114]]
theorem mustF_lt {ws : List (List UInt8)} {l r : List Tok} {i : Nat} (h : mustF ws l = .ok (i, r)) : i < ws.length ∧ r.length < l.length := by
  unfold mustF optF at h
  rcases takeF_cases ws l with ht | ⟨t, r', j, rfl, ht, -, hj⟩
  · rw [ht] at h; cases h
  · rw [ht] at h; cases h; exact ⟨idx_lt hj, by simp⟩
theorem must_out (ws : List (List UInt8)) (W : Option Addr) (n : Nat) (hn : ws.length = n) (cw : Nat) (p fin : Nat) (l : List Tok) (w : World) (hp : PS w p fin l) (hr : RdS w W ws) (hl : n ≤ 100) {K : Ending → World → Prop}
    (hk : ∀ i r w', mustF ws l = .ok (i, r) → i < n → r.length < l.length → PS w' p fin r → Eff p w w' → K (.returned (.int .i64 i)) w')
    (he : ∀ c s w', mustF ws l = .error (c, s) → Eff p w w' → K (stopE c (posAt fin s)) w') : Calls Tryd.prog 37 #[.pointer (some ⟨p, 0, none⟩), .slice W n cw] w K := by
  subst hn
  refine calls_out (must_any ws W cw p fin l w hp hr hl) (fun i r v w' hq hv h1 h2 => ?_) he
  subst hv
  exact hk i r w' hq (mustF_lt hq).1 (mustF_lt hq).2 h1 h2
theorem oneF_eq (n : Nat) (l : List Tok) : oneF (n + 1) l = bindR (mustF starts8 l) fun i r =>
      match i with
      | 0 => .ok (.mk 1 [] 0 0 [], r)
      | 1 => .ok (.mk 2 [] 0 0 [], r)
      | 2 => bindR (numberF 1000000 r) fun v r' => .ok (.mk 3 [] 0 v [], r')
      | 3 => bindR (orF (oneF n) 8 9 n r) fun f r' => bindR (mustF [[41]] r') fun _ r'' => .ok (f, r'')
      | k + 4 => bindR (nameF r) fun s r' => .ok (.mk (4 + k) s 0 0 [], r') := rfl
set_option maxRecDepth 20000 in
set_option maxHeartbeats 800000 in
theorem one_step {p fin n : Nat} (hn : n ≤ 6000) (ih : ReadsT false 84 p fin n (oneF n)) : ReadsT false 84 p fin (n + 1) (oneF (n + 1)) := by
  refine ⟨fun l w hp hl => ?_, one_sane (n + 1)⟩
  have hpl := hp.lt
  have HC := Lib.hid (start_any (all_any ih (by omega)) (by omega))
  have HP := Lib.hid hp
  clear ih hp
  go_enter Tryd.func84, Tryd.ntmps84
  go_wp2_with fail
  refine must_out starts8 _ 8 rfl 8 p fin l _ (fits_alloc (fits_alloc HP.out _) _) (RdS.new (alloc_at (by simp))) (by omega) ?_ ?_
  case refine_2 =>
    intro c s w1 hq he1
    have HQ := Lib.hid hq
    clear hq
    go_wp2_with fail
    refine ⟨rfl, ?_⟩
    rw [show oneF (n + 1) l = .error (c, s) by simp only [oneF_eq, HQ.out, bindR]]
    exact ⟨rfl, (eff_alloc p w _).trans ((eff_alloc p _ _).trans he1)⟩
  case refine_1 =>
    intro i r w1 ht hi hr hp1 he1
    have HT := Lib.hid ht
    have HP1 := Lib.hid hp1
    have he := (eff_alloc p w _).trans ((eff_alloc p _ _).trans he1)
    have hres := (he1.block w.heap.size (by simp; omega) (by omega)).trans (old_at (alloc_at rfl))
    have HRES := Lib.hid hres
    have HE := Lib.hid he
    clear ht hp1 he1 he hres
    obtain rfl | rfl | rfl | rfl | ⟨k, rfl⟩ : i = 0 ∨ i = 1 ∨ i = 2 ∨ i = 3 ∨ ∃ k, i = k + 4 := by
      rcases (by omega : i = 0 ∨ i = 1 ∨ i = 2 ∨ i = 3 ∨ 4 ≤ i) with h | h | h | h | h
      · exact .inl h
      · exact .inr (.inl h)
      · exact .inr (.inr (.inl h))
      · exact .inr (.inr (.inr (.inl h)))
      · exact .inr (.inr (.inr (.inr ⟨i - 4, by omega⟩)))
    · have hres := HRES.out
      have c0 := cell_of_blk (o := 0) hres rfl
      have c1 := cell_of_blk (o := 1) hres rfl
      have c2 := cell_of_blk (o := 2) hres rfl
      have c3 := cell_of_blk (o := 3) hres rfl
      have f0 := frozen_of_blk (o := 0) hres
      have f1 := frozen_of_blk (o := 1) hres
      have f2 := frozen_of_blk (o := 2) hres
      have f3 := frozen_of_blk (o := 3) hres
      have dl := lt_of_heap' hres
      clear hres
      go_wp2_with fail
      refine bodyPost_ret (v := .agg (tcs false 1 [] 0 0 (.slice none 0 0)).toArray) (by simp [results, Tryd.results84, go_sem, tcs, *]) rfl ?_
      exact boxed (Nat.le_refl _) (RdTree.leaf 1 [] 0 0 none 0) HP1.out HE.out ((((Off.refl w.heap.size w1).set (o := 0) (.int .i64 (1 : Nat))).set (o := 1) (vs [])).set (o := 2) (.int .i64 (0 : Nat)) |>.set (o := 3) (.slice none 0 0)) hpl (show oneF (n + 1) l = .ok (.mk 1 [] 0 0 [], r) by simp only [oneF_eq, HT.out, bindR])
    · have hres := HRES.out
      have c0 := cell_of_blk (o := 0) hres rfl
      have c1 := cell_of_blk (o := 1) hres rfl
      have c2 := cell_of_blk (o := 2) hres rfl
      have c3 := cell_of_blk (o := 3) hres rfl
      have f0 := frozen_of_blk (o := 0) hres
      have f1 := frozen_of_blk (o := 1) hres
      have f2 := frozen_of_blk (o := 2) hres
      have f3 := frozen_of_blk (o := 3) hres
      have dl := lt_of_heap' hres
      clear hres
      go_wp2_with fail
      refine bodyPost_ret (v := .agg (tcs false 2 [] 0 0 (.slice none 0 0)).toArray) (by simp [results, Tryd.results84, go_sem, tcs, *]) rfl ?_
      exact boxed (Nat.le_refl _) (RdTree.leaf 2 [] 0 0 none 0) HP1.out HE.out ((((Off.refl w.heap.size w1).set (o := 0) (.int .i64 (2 : Nat))).set (o := 1) (vs [])).set (o := 2) (.int .i64 (0 : Nat)) |>.set (o := 3) (.slice none 0 0)) hpl (show oneF (n + 1) l = .ok (.mk 2 [] 0 0 [], r) by simp only [oneF_eq, HT.out, bindR])
    · go_wp2_with fail
      refine calls_out (number_any 1000000 p fin r _ HP1.out) ?_ ?_
      case refine_2 =>
        intro c s w2 hq he2
        have HQ := Lib.hid hq
        clear hq
        go_wp2_with fail
        refine ⟨rfl, ?_⟩
        rw [show oneF (n + 1) l = .error (c, s) by simp only [oneF_eq, HT.out, HQ.out, bindR]]
        exact ⟨rfl, HE.out.trans he2⟩
      case refine_1 =>
        intro m r2 v w2 hq hv hp2 he2
        subst hv
        have HQ := Lib.hid hq
        have HP2 := Lib.hid hp2
        have HE2 := Lib.hid (HE.out.trans he2)
        have hres := (he2.block w.heap.size (lt_of_heap' HRES.out) (by omega)).trans HRES.out
        have c0 := cell_of_blk (o := 0) hres rfl
        have c1 := cell_of_blk (o := 1) hres rfl
        have c2 := cell_of_blk (o := 2) hres rfl
        have c3 := cell_of_blk (o := 3) hres rfl
        have f0 := frozen_of_blk (o := 0) hres
        have f1 := frozen_of_blk (o := 1) hres
        have f2 := frozen_of_blk (o := 2) hres
        have f3 := frozen_of_blk (o := 3) hres
        have dl := lt_of_heap' hres
        clear hq hp2 he2 hres
        go_wp2_with fail
        refine bodyPost_ret (v := .agg (tcs false 3 [] 0 m (.slice none 0 0)).toArray) (by simp [results, Tryd.results84, go_sem, tcs, *]) rfl ?_
        exact boxed (Nat.le_refl _) (RdTree.leaf 3 [] 0 m none 0) HP2.out HE2.out ((((Off.refl w.heap.size w2).set (o := 0) (.int .i64 (3 : Nat))).set (o := 1) (vs [])).set (o := 2) (.int .i64 m) |>.set (o := 3) (.slice none 0 0)) hpl (show oneF (n + 1) l = .ok (.mk 3 [] 0 m [], r2) by simp only [oneF_eq, HT.out, HQ.out, bindR])
    · go_wp2_with fail
      refine HC.out.call HP1.out (by omega) ?_ ?_
      case refine_2 =>
        intro c s w2 hq he2
        have HQ := Lib.hid hq
        clear hq
        go_wp2_with fail
        refine ⟨rfl, ?_⟩
        rw [show oneF (n + 1) l = .error (c, s) by simp only [oneF_eq, HT.out, orF, andF, HQ.out, bindR]]
        exact ⟨rfl, HE.out.trans he2⟩
      case refine_1 =>
        intro t r2 v w2 hq hv hp2 he2 hr2
        obtain ⟨cs, rfl, hrt⟩ := hv
        have HRT := Lib.hid hrt
        obtain ⟨o1, name, cm, m, ks⟩ := t
        obtain ⟨A, cap, rfl, -, -⟩ := hrt
        simp only [tcs]
        have HQ := Lib.hid hq
        have HP2 := Lib.hid hp2
        have HE2 := Lib.hid (HE.out.trans he2)
        have hs := he2.size
        have hres := (he2.block w.heap.size (lt_of_heap' HRES.out) (by omega)).trans HRES.out
        have z2 := lt_of_heap' hres
        have HRES2 := Lib.hid hres
        clear hq hp2 he2 hres
        go_wp2_with fail
        refine must_out [[41]] _ 1 rfl 1 p fin r2 _ (fits_alloc (fits_alloc HP2.out _) _) (RdS.new (alloc_at (by simp))) (by simp) ?_ ?_
        case refine_2 =>
          intro c s w3 hq3 he3
          have HQ3 := Lib.hid hq3
          clear hq3
          go_wp2_with fail
          refine ⟨rfl, ?_⟩
          rw [show oneF (n + 1) l = .error (c, s) by simp only [oneF_eq, HT.out, orF, andF, HQ.out, HQ3.out, bindR]]
          exact ⟨rfl, HE2.out.trans ((eff_alloc p _ _).trans ((eff_alloc p _ _).trans he3))⟩
        case refine_1 =>
          intro i3 r3 w3 hq3 hi3 hr3 hp3 he3
          have HQ3 := Lib.hid hq3
          have HP3 := Lib.hid hp3
          have h1 : ¬ w.heap.size = w2.heap.size := by omega
          have h2 : ¬ w2.heap.size = w.heap.size := by omega
          have hf := (he3.block w2.heap.size (by simp; omega) (by omega)).trans (old_at (alloc_at rfl))
          have hres := (he3.block w.heap.size (by simp; omega) (by omega)).trans (old_at (old_at HRES2.out))
          have HE3 := Lib.hid (HE2.out.trans ((eff_alloc p _ _).trans ((eff_alloc p _ _).trans he3)))
          have hz1 := lt_of_heap' HRES.out
          have HRT3 := Lib.hid ((HRT.out.eff (eff_alloc p _ (.cells #[.int .i64 o1, vs name, .int .i64 m, .slice A ks.length cap] 33 (0, 0))) (by omega)).eff ((eff_alloc p _ _).trans he3) (by omega))
          have e0 := cell_of_blk (o := 0) hf rfl
          have e1 := cell_of_blk (o := 1) hf rfl
          have e2 := cell_of_blk (o := 2) hf rfl
          have e3 := cell_of_blk (o := 3) hf rfl
          have fl := lt_of_heap' hf
          have c0 := cell_of_blk (o := 0) hres rfl
          have c1 := cell_of_blk (o := 1) hres rfl
          have c2 := cell_of_blk (o := 2) hres rfl
          have c3 := cell_of_blk (o := 3) hres rfl
          have f0 := frozen_of_blk (o := 0) hres
          have f1 := frozen_of_blk (o := 1) hres
          have f2 := frozen_of_blk (o := 2) hres
          have f3 := frozen_of_blk (o := 3) hres
          have dl := lt_of_heap' hres
          clear hq3 hp3 he3 hf hres
          go_wp2_with fail
          refine bodyPost_ret (v := .agg (tcs false o1 name cm m (.slice A ks.length cap)).toArray) (by simp [results, Tryd.results84, go_sem, tcs, *]) rfl ?_
          exact boxed (Nat.le_refl _) (HRT3.out.keep (Nat.le_refl _) (fun b hb _ => ⟨by omega, rfl⟩)) HP3.out HE3.out ((((Off.refl w.heap.size w3).set (o := 0) (.int .i64 o1)).set (o := 1) (vs name)).set (o := 2) (.int .i64 m) |>.set (o := 3) (.slice A ks.length cap)) hpl (show oneF (n + 1) l = .ok (.mk o1 name cm m ks, r3) by simp only [oneF_eq, HT.out, orF, andF, HQ.out, HQ3.out, bindR])
    · have y0 : (((k + 4 : Nat) : Int) == 0) = false := by simp; omega
      have y1 : (((k + 4 : Nat) : Int) == 1) = false := by simp; omega
      have y2 : (((k + 4 : Nat) : Int) == 2) = false := by simp; omega
      have y3 : (((k + 4 : Nat) : Int) == 3) = false := by simp; omega
      go_wp2_with fail
      refine calls_out (name_any p fin r _ HP1.out) ?_ ?_
      case refine_2 =>
        intro c s w2 hq he2
        have HQ := Lib.hid hq
        clear hq
        go_wp2_with fail
        refine ⟨rfl, ?_⟩
        rw [show oneF (n + 1) l = .error (c, s) by simp only [oneF_eq, HT.out, HQ.out, bindR]]
        exact ⟨rfl, HE.out.trans he2⟩
      case refine_1 =>
        intro s r2 v w2 hq hv hp2 he2
        subst hv
        have HQ := Lib.hid hq
        have HP2 := Lib.hid hp2
        have HE2 := Lib.hid (HE.out.trans he2)
        have hres := (he2.block w.heap.size (lt_of_heap' HRES.out) (by omega)).trans HRES.out
        have c0 := cell_of_blk (o := 0) hres rfl
        have c1 := cell_of_blk (o := 1) hres rfl
        have c2 := cell_of_blk (o := 2) hres rfl
        have c3 := cell_of_blk (o := 3) hres rfl
        have f0 := frozen_of_blk (o := 0) hres
        have f1 := frozen_of_blk (o := 1) hres
        have f2 := frozen_of_blk (o := 2) hres
        have f3 := frozen_of_blk (o := 3) hres
        have dl := lt_of_heap' hres
        clear hq hp2 he2 hres
        go_wp2_with fail
        refine bodyPost_ret (v := .agg (tcs false (4 + k) s 0 0 (.slice none 0 0)).toArray) (by simp [results, Tryd.results84, go_sem, tcs, *]; omega) rfl ?_
        exact boxed (Nat.le_refl _) (RdTree.leaf (4 + k) s 0 0 none 0) HP2.out HE2.out ((((Off.refl w.heap.size w2).set (o := 0) _).set (o := 1) _).set (o := 2) _ |>.set (o := 3) _) hpl (show oneF (n + 1) l = .ok (.mk (4 + k) s 0 0 [], r2) by simp only [oneF_eq, HT.out, HQ.out, bindR])
theorem one_any {p fin : Nat} : ∀ n, n ≤ 6001 → ReadsT false 84 p fin n (oneF n)
  | 0, _ => ⟨fun l w _ h => absurd h (Nat.not_lt_zero _), sane_zero⟩
  | n + 1, h => one_step (by omega) (one_any n (by omega))
theorem startF_any {p fin : Nat} (n : Nat) (hn : n ≤ 6001) : ReadsT false 62 p fin n (startF n) := start_any (all_any (one_any n hn) hn) hn
end Go.Proofs.YtpagkakplmeokaaDoor
