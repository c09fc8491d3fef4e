/- The plain law of postfix. -/
import Derived.Test.YtcekampdldkjlaaDoorSOwn
set_option linter.unusedVariables false
set_option linter.unusedSimpArgs false
namespace Go.Proofs.YtcekampdldkjlaaDoor
open Go.RowKit
abbrev bWhere : List UInt8 := [119, 104, 101, 114, 101, 32, 123]
abbrev kWhere : List Core := [(1, [119, 104, 101, 114, 101], 0), (3, [123], 0)]
theorem tc_bWhere (l : List UInt8) : tcore (bWhere ++ l) = (kWhere ++ (tcore l).1, (tcore l).2) := by
  have h := tcore_symb (s := 123) (a := [119, 104, 101, 114, 101, 32]) (b := l) (K := [(1, [119, 104, 101, 114, 101], 0)]) (by rfl) (by decide) (by decide) (by decide) (by decide)
  exact h
abbrev bEnd : List UInt8 := [125, 32, 116, 101, 114, 109, 32, 116, 32, 91, 114, 117, 108, 101, 32, 112, 93]
abbrev kEnd : List Core := [(3, [125], 0), (1, [116, 101, 114, 109], 0), (1, [116], 0), (3, [91], 0), (1, [114, 117, 108, 101], 0), (1, [112], 0), (3, [93], 0)]
theorem tc_bEnd : tcore bEnd = (kEnd, false) := by rfl
abbrev kTail : List Core := [(1, [116, 101, 114, 109], 0), (1, [116], 0), (3, [91], 0), (1, [114, 117, 108, 101], 0), (1, [112], 0), (3, [93], 0)]
abbrev bAll : List UInt8 := [97, 108, 108, 32, 50]
abbrev bAny : List UInt8 := [97, 110, 121, 32, 50]
abbrev bNot : List UInt8 := [110, 101, 103, 97, 116, 101, 100]
abbrev kAll : List Core := [(1, [97, 108, 108], 0), (2, [50], 2)]
abbrev kAny : List Core := [(1, [97, 110, 121], 0), (2, [50], 2)]
abbrev kNot : List Core := [(1, [110, 101, 103, 97, 116, 101, 100], 0)]
theorem tc_bAll : tcore bAll = (kAll, false) := by rfl
theorem tc_bAny : tcore bAny = (kAny, false) := by rfl
theorem tc_bNot : tcore bNot = (kNot, false) := by rfl
def textP (a : List UInt8) : List UInt8 := bWhere ++ (a ++ 10 :: bEnd)
def textQ (a b g : List UInt8) : List UInt8 := bWhere ++ (a ++ 10 :: (b ++ 10 :: (g ++ 10 :: bEnd)))
def textN (a : List UInt8) : List UInt8 := bWhere ++ (a ++ 10 :: (bNot ++ 10 :: bEnd))
def provT (x : Tree) : Prov := ⟨[112], 4, 1, [116], 0, x, [], leafT 1, leafT 2, leafT 2⟩
theorem opt_yes {α : Type} {w : List UInt8} {d : α} {p : List Tok → R α} {l : List Tok} (h : seesF [w] l = true) : optR w d p l = p l.tail := by
  unfold optR isF
  rw [if_pos h]
theorem opt_not {α : Type} {w : List UInt8} {d : α} {p : List Tok → R α} {l : List Tok} (h : seesF [w] l = false) : optR w d p l = .ok (d, l) := by
  unfold optR isF
  rw [h]; rfl
theorem pr_of {l : List Tok} {p : Prov} (h : provF l = .ok (p, [])) : pr l = .ok (p, []) := by
  unfold pr endF
  rw [h]; rfl
theorem pr_err {l s : List Tok} {e : Nat} (h : provF l = .error (e, s)) : pr l = .error (e, s) := by
  unfold pr endF
  rw [h]; rfl
/- a formula alone -/
theorem where_ok {K : List Core} {x : Tree} (h : formulaF (toks ((3, [123], 0) :: (K ++ kEnd))) = .ok (x, toks kTail)) : pr (toks (kWhere ++ (K ++ kEnd))) = .ok (provT x, []) := by
  refine pr_of ?_
  unfold provF
  rw [opt_yes (by rfl)]
  have e : (toks (kWhere ++ (K ++ kEnd))).tail = toks ((3, [123], 0) :: (K ++ kEnd)) := rfl
  rw [e, h]
  rfl
theorem where_err {K : List Core} {e : Nat} {s : List Tok} (h : formulaF (toks ((3, [123], 0) :: (K ++ kEnd))) = .error (e, s)) : pr (toks (kWhere ++ (K ++ kEnd))) = .error (e, s) := by
  refine pr_err ?_
  unfold provF
  rw [opt_yes (by rfl)]
  have e : (toks (kWhere ++ (K ++ kEnd))).tail = toks ((3, [123], 0) :: (K ++ kEnd)) := rfl
  rw [e, h]
  rfl
theorem toks_text {K : List Core} {s : List UInt8} (h : ∀ c ∈ K, c.2.1 ≠ s) : ∀ t ∈ toks K, (t.text == s) = false := by
  intro t ht
  obtain ⟨c, hc, rfl⟩ := List.mem_map.1 ht
  simpa [tok0] using h c hc
theorem where_runs {K : List Core} (hK : ∀ c ∈ K, c.2.1 ≠ [125]) {p : Prov} {s : List Tok} (h : pr (toks (kWhere ++ (K ++ kEnd))) = .ok (p, s)) : ∃ n d, n ≤ 200 ∧ Runs beginsF itemF n [] (toks K) [(p.cond, d)] := by
  have h := pr_prov h
  unfold provF at h
  obtain ⟨c, r1, hc, h⟩ := bind_ok h
  rw [opt_yes (by rfl)] at hc
  have hcond : p.cond = c := by
    obtain ⟨k, r2, hk, h⟩ := bind_ok h
    obtain ⟨e, r3, he, h⟩ := bind_ok h
    obtain ⟨b, r4, hb, h⟩ := bind_ok h
    obtain ⟨f, r5, hf, h⟩ := bind_ok h
    obtain ⟨g, r6, hg, h⟩ := bind_ok h
    obtain ⟨u1, r7, h7, h⟩ := bind_ok h
    obtain ⟨rk, r8, h8, h⟩ := bind_ok h
    obtain ⟨id, r9, h9, h⟩ := bind_ok h
    obtain ⟨u4, r10, -, h⟩ := bind_ok h
    cases h
    rfl
  rw [hcond]
  obtain ⟨t0, u, t1, n, d, he, h1, h2, hn, hr⟩ := braces_out (fun _ _ _ => rfl) OwnN.item hc
  have e : (toks (kWhere ++ (K ++ kEnd))).tail = tok0 (3, [123], 0) :: (toks K ++ tok0 (3, [125], 0) :: toks kTail) := by
    rw [toks_app, toks_app]; rfl
  rw [e] at he
  injection he with _ he
  obtain ⟨rfl, -, -⟩ := split_one (p := fun t => t.text == [125]) (by simp [h2]) he (toks_text hK) (toks_text (by decide))
  exact ⟨n, d, hn, hr⟩
/- one operation more at the end -/
theorem fin_out {n : Nat} {u : List Tok} {st : Stack} {t : Tok} {g : List Tok} {op k : Nat} {t0 t1 : Tok} {r : List Tok} (hr : Runs beginsF itemF n [] u st) (hb : ∀ r, beginsF (t :: r) = true) (hs : ∀ r, seesF [[125]] (t :: r) = false)
    (hi : ∀ r, itemF st (t :: (g ++ r)) = combineF op k (t :: (g ++ r)) st r) (hk : st.length = k) (a1 : isWord t0 = true) (a2 : t0.text = [123]) (b1 : isWord t1 = true) (b2 : t1.text = [125]) :
    (n + 1 ≤ 200 ∧ deepK st ≤ 20 → formulaF (t0 :: (u ++ t :: (g ++ t1 :: r))) = .ok (.mk op [] 0 0 (st.map (·.1)), r)) ∧ (¬ (n + 1 ≤ 200 ∧ deepK st ≤ 20) → ∃ s, formulaF (t0 :: (u ++ t :: (g ++ t1 :: r))) = .error (2, s)) := by
  have hc : deepK st ≤ 20 → combineF op k (t :: (g ++ t1 :: r)) st (t1 :: r) = .ok ([(.mk op [] 0 0 (st.map (·.1)), deepK st)], t1 :: r) := by
    intro hd
    unfold combineF
    rw [if_neg (by omega), show st.length - k = 0 by omega, List.drop_zero, if_neg (by omega)]
    rfl
  have hc2 : ¬ deepK st ≤ 20 → combineF op k (t :: (g ++ t1 :: r)) st (t1 :: r) = .error (2, t :: (g ++ t1 :: r)) := by
    intro hd
    unfold combineF
    rw [if_neg (by omega), show st.length - k = 0 by omega, List.drop_zero, if_pos (by omega)]
  unfold formulaF bracesF
  rw [must_in a1 a2]
  simp only [bindR]
  refine ⟨fun h => ?_, fun h => ?_⟩
  · obtain ⟨f, hf⟩ : ∃ f, 200 = f + 1 + n := ⟨199 - n, by omega⟩
    rw [show 201 = f + 1 + n + 1 by omega, runs_loop n (f + 1) [] u _ _ hr, loopF, hs, hb, if_neg (by decide), if_pos rfl, if_neg (by omega), hi, hc h.2]
    simp only [bindR]
    rw [loop_end b1 b2]
    exact top_in b1 b2 r
  · by_cases hn : n ≤ 200
    · obtain ⟨f, hf⟩ : ∃ f, 200 = f + n := ⟨200 - n, by omega⟩
      rw [show 201 = f + n + 1 by omega, runs_loop n f [] u _ _ hr, loopF, hs, hb, if_neg (by decide), if_pos rfl]
      cases f with
      | zero => exact ⟨_, rfl⟩
      | succ f =>
        rw [if_neg (by omega), hi, hc2 (fun hd => h ⟨by omega, hd⟩)]
        exact ⟨_, rfl⟩
    · obtain ⟨s, hs2⟩ := runs_over n 200 [] u _ (t :: (g ++ t1 :: r)) hr (by omega)
      rw [hs2]
      exact ⟨s, rfl⟩
theorem pr_two {KA KB : List Core} {nA nB dA dB : Nat} {x y : Tree} (hA : Runs beginsF itemF nA [] (toks KA) [(x, dA)]) (hB : Runs beginsF itemF nB [] (toks KB) [(y, dB)]) :
    (pr (toks (kWhere ++ ((KA ++ (KB ++ kAll)) ++ kEnd))) = .ok (provT (.mk 6 [] 0 0 [x, y]), []) ∧ pr (toks (kWhere ++ ((KA ++ (KB ++ kAny)) ++ kEnd))) = .ok (provT (.mk 7 [] 0 0 [x, y]), [])) ∨
    ∃ s s', pr (toks (kWhere ++ ((KA ++ (KB ++ kAll)) ++ kEnd))) = .error (2, s) ∧ pr (toks (kWhere ++ ((KA ++ (KB ++ kAny)) ++ kEnd))) = .error (2, s') := by
  have hR := hA.app (hB.frame item_frame [(x, dA)])
  have h6 := fin_out (t := tok0 (1, [97, 108, 108], 0)) (g := [tok0 (2, [50], 2)]) (op := 6) (k := 2) (t0 := tok0 (3, [123], 0)) (t1 := tok0 (3, [125], 0)) (r := toks kTail) hR (fun _ => rfl) (fun _ => rfl) (fun _ => rfl) rfl rfl rfl rfl rfl
  have h7 := fin_out (t := tok0 (1, [97, 110, 121], 0)) (g := [tok0 (2, [50], 2)]) (op := 7) (k := 2) (t0 := tok0 (3, [123], 0)) (t1 := tok0 (3, [125], 0)) (r := toks kTail) hR (fun _ => rfl) (fun _ => rfl) (fun _ => rfl) rfl rfl rfl rfl rfl
  have e6 : tok0 (3, [123], 0) :: ((toks KA ++ toks KB) ++ tok0 (1, [97, 108, 108], 0) :: ([tok0 (2, [50], 2)] ++ tok0 (3, [125], 0) :: toks kTail)) = toks ((3, [123], 0) :: ((KA ++ (KB ++ kAll)) ++ kEnd)) := by
    rw [show (3, [123], 0) :: ((KA ++ (KB ++ kAll)) ++ kEnd) = [((3, [123], 0) : Core)] ++ ((KA ++ (KB ++ kAll)) ++ kEnd) from rfl, toks_app, toks_app, toks_app, toks_app, List.append_assoc, List.append_assoc, List.append_assoc]; rfl
  have e7 : tok0 (3, [123], 0) :: ((toks KA ++ toks KB) ++ tok0 (1, [97, 110, 121], 0) :: ([tok0 (2, [50], 2)] ++ tok0 (3, [125], 0) :: toks kTail)) = toks ((3, [123], 0) :: ((KA ++ (KB ++ kAny)) ++ kEnd)) := by
    rw [show (3, [123], 0) :: ((KA ++ (KB ++ kAny)) ++ kEnd) = [((3, [123], 0) : Core)] ++ ((KA ++ (KB ++ kAny)) ++ kEnd) from rfl, toks_app, toks_app, toks_app, toks_app, List.append_assoc, List.append_assoc, List.append_assoc]; rfl
  rw [e6] at h6
  rw [e7] at h7
  by_cases hc : nA + nB + 1 ≤ 200 ∧ deepK ([(x, dA)] ++ [(y, dB)]) ≤ 20
  · exact .inl ⟨where_ok (h6.1 hc), where_ok (h7.1 hc)⟩
  · obtain ⟨s, hs⟩ := h6.2 hc
    obtain ⟨s', hs'⟩ := h7.2 hc
    exact .inr ⟨s, s', where_err hs, where_err hs'⟩
theorem pr_neg {KA : List Core} {nA dA : Nat} {x : Tree} (hA : Runs beginsF itemF nA [] (toks KA) [(x, dA)]) :
    pr (toks (kWhere ++ ((KA ++ kNot) ++ kEnd))) = .ok (provT (.mk 5 [] 0 0 [x]), []) ∨ ∃ s, pr (toks (kWhere ++ ((KA ++ kNot) ++ kEnd))) = .error (2, s) := by
  have h5 := fin_out (t := tok0 (1, [110, 101, 103, 97, 116, 101, 100], 0)) (g := []) (op := 5) (k := 1) (t0 := tok0 (3, [123], 0)) (t1 := tok0 (3, [125], 0)) (r := toks kTail) hA (fun _ => rfl) (fun _ => rfl) (fun _ => rfl) rfl rfl rfl rfl rfl
  have e5 : tok0 (3, [123], 0) :: (toks KA ++ tok0 (1, [110, 101, 103, 97, 116, 101, 100], 0) :: ([] ++ tok0 (3, [125], 0) :: toks kTail)) = toks ((3, [123], 0) :: ((KA ++ kNot) ++ kEnd)) := by
    rw [show (3, [123], 0) :: ((KA ++ kNot) ++ kEnd) = [((3, [123], 0) : Core)] ++ ((KA ++ kNot) ++ kEnd) from rfl, toks_app, toks_app, toks_app, List.append_assoc]; rfl
  rw [e5] at h5
  by_cases hc : nA + 1 ≤ 200 ∧ deepK [(x, dA)] ≤ 20
  · exact .inl (where_ok (h5.1 hc))
  · obtain ⟨s, hs⟩ := h5.2 hc
    exact .inr ⟨s, where_err hs⟩
theorem tc_textP (a : List UInt8) : tcore (textP a) = if (tcore a).2 then (kWhere ++ (tcore a).1, true) else (kWhere ++ ((tcore a).1 ++ kEnd), false) := by
  unfold textP
  rw [tc_bWhere, tcore_join, tc_bEnd]
  split <;> rfl
theorem textP_ok {a : List UInt8} (ha : a.length ≤ 900) (hb : 125 ∉ a) (h : outE (textP a) = 0) : (tcore a).2 = false ∧ ∃ n d, n ≤ 200 ∧ Runs beginsF itemF n [] (toks (tcore a).1) [((outP (textP a)).cond, d)] := by
  obtain ⟨h2, s, hp⟩ := core_of_ok (l := textP a) (by unfold textP; simp; omega) h
  rw [tc_textP] at h2 hp
  cases hc : (tcore a).2 with
  | true => rw [hc] at h2; cases h2
  | false =>
    rw [hc] at hp
    exact ⟨rfl, where_runs (fun c hm hx => hb (core_bytes hm 125 (by rw [hx]; simp))) hp⟩
theorem tcore_fst {l : List UInt8} {K : List Core} (h : tcore l = (K, false)) : (tcore l).1 = K ∧ (tcore l).2 = false := by rw [h]; exact ⟨rfl, rfl⟩
theorem tc_textQ {a b g : List UInt8} {K : List Core} (ha : (tcore a).2 = false) (hb : (tcore b).2 = false) (hg : tcore g = (K, false)) : tcore (textQ a b g) = (kWhere ++ (((tcore a).1 ++ ((tcore b).1 ++ K)) ++ kEnd), false) := by
  unfold textQ
  rw [tc_bWhere, tcore_join, ha, tcore_join, hb, tcore_join, hg, tc_bEnd]
  simp
theorem tc_textN {a : List UInt8} (ha : (tcore a).2 = false) : tcore (textN a) = (kWhere ++ (((tcore a).1 ++ kNot) ++ kEnd), false) := by
  unfold textN
  rw [tc_bWhere, tcore_join, ha, tcore_join, tc_bNot, tc_bEnd]
  simp
theorem post_law {a b : List UInt8} (ha : a.length ≤ 900) (hb : b.length ≤ 900) (pa : 125 ∉ a) (pb : 125 ∉ b) (h1 : outE (textP a) = 0) (h2 : outE (textP b) = 0) :
    (outE (textQ a b bAll) = 0 ∧ outE (textQ a b bAny) = 0 ∧ (outP (textQ a b bAll)).cond = .mk 6 [] 0 0 [(outP (textP a)).cond, (outP (textP b)).cond] ∧ (outP (textQ a b bAny)).cond = .mk 7 [] 0 0 [(outP (textP a)).cond, (outP (textP b)).cond] ∨
      outE (textQ a b bAll) = 2 ∧ outE (textQ a b bAny) = 2) := by
  obtain ⟨a2, nA, dA, hnA, hA⟩ := textP_ok ha pa h1
  obtain ⟨b2, nB, dB, hnB, hB⟩ := textP_ok hb pb h2
  have l1 : (textQ a b bAll).length ≤ 5000 := by unfold textQ; simp; omega
  have l2 : (textQ a b bAny).length ≤ 5000 := by unfold textQ; simp; omega
  have t1 := tc_textQ a2 b2 tc_bAll
  have t2 := tc_textQ a2 b2 tc_bAny
  rcases pr_two hA hB with ⟨h6, h7⟩ | ⟨s, s', h6, h7⟩
  · have r1 := core_ok l1 t1 h6
    have r2 := core_ok l2 t2 h7
    exact .inl ⟨r1.1, r2.1, by rw [r1.2]; rfl, by rw [r2.2]; rfl⟩
  · exact .inr ⟨core_err l1 t1 h6, core_err l2 t2 h7⟩
theorem post_not {a : List UInt8} (ha : a.length ≤ 900) (pa : 125 ∉ a) (h1 : outE (textP a) = 0) :
    (outE (textN a) = 0 ∧ (outP (textN a)).cond = .mk 5 [] 0 0 [(outP (textP a)).cond]) ∨ outE (textN a) = 2 := by
  obtain ⟨a2, nA, dA, hnA, hA⟩ := textP_ok ha pa h1
  have l1 : (textN a).length ≤ 5000 := by unfold textN; simp; omega
  have t1 := tc_textN a2
  rcases pr_neg hA with h5 | ⟨s, h5⟩
  · have r1 := core_ok l1 t1 h5
    exact .inl ⟨r1.1, by rw [r1.2]; rfl⟩
  · exact .inr (core_err l1 t1 h5)
end Go.Proofs.YtcekampdldkjlaaDoor
