/- The plain law of parts. -/
import Derived.Test.YtcekampdldkjlaaDoorSPost
set_option linter.unusedVariables false
set_option linter.unusedSimpArgs false
namespace Go.Proofs.YtcekampdldkjlaaDoor
open Go.RowKit
abbrev c1 : List UInt8 := [125, 32, 113, 117, 101, 115, 116, 105, 111, 110, 32, 113, 32, 103, 105, 118, 101, 115, 32, 55, 32, 111, 118, 101, 114, 114, 105, 100, 101, 115, 32, 40]
abbrev k1 : List Core := [(3, [125], 0), (1, [113, 117, 101, 115, 116, 105, 111, 110], 0), (1, [113], 0), (1, [103, 105, 118, 101, 115], 0), (2, [55], 7), (1, [111, 118, 101, 114, 114, 105, 100, 101, 115], 0), (3, [40], 0)]
theorem tc_c1 (l : List UInt8) : tcore (c1 ++ l) = (k1 ++ (tcore l).1, (tcore l).2) := by
  have h := tcore_symb (s := 40) (a := [125, 32, 113, 117, 101, 115, 116, 105, 111, 110, 32, 113, 32, 103, 105, 118, 101, 115, 32, 55, 32, 111, 118, 101, 114, 114, 105, 100, 101, 115, 32]) (b := l) (K := [(3, [125], 0), (1, [113, 117, 101, 115, 116, 105, 111, 110], 0), (1, [113], 0), (1, [103, 105, 118, 101, 115], 0), (2, [55], 7), (1, [111, 118, 101, 114, 114, 105, 100, 101, 115], 0)]) (by rfl) (by decide) (by decide) (by decide) (by decide)
  exact h
abbrev c2 : List UInt8 := [41, 32, 115, 116, 97, 114, 116, 115, 32, 123]
abbrev k2 : List Core := [(3, [41], 0), (1, [115, 116, 97, 114, 116, 115], 0), (3, [123], 0)]
theorem tc_c2 (l : List UInt8) : tcore (c2 ++ l) = (k2 ++ (tcore l).1, (tcore l).2) := by
  have h := tcore_symb (s := 123) (a := [41, 32, 115, 116, 97, 114, 116, 115, 32]) (b := l) (K := [(3, [41], 0), (1, [115, 116, 97, 114, 116, 115], 0)]) (by rfl) (by decide) (by decide) (by decide) (by decide)
  exact h
abbrev c3 : List UInt8 := [125, 32, 101, 110, 100, 115, 32, 123]
abbrev k3 : List Core := [(3, [125], 0), (1, [101, 110, 100, 115], 0), (3, [123], 0)]
theorem tc_c3 (l : List UInt8) : tcore (c3 ++ l) = (k3 ++ (tcore l).1, (tcore l).2) := by
  have h := tcore_symb (s := 123) (a := [125, 32, 101, 110, 100, 115, 32]) (b := l) (K := [(3, [125], 0), (1, [101, 110, 100, 115], 0)]) (by rfl) (by decide) (by decide) (by decide) (by decide)
  exact h
abbrev c4 : List UInt8 := [125, 32, 114, 101, 116, 117, 114, 110, 115, 32, 123]
abbrev k4 : List Core := [(3, [125], 0), (1, [114, 101, 116, 117, 114, 110, 115], 0), (3, [123], 0)]
theorem tc_c4 (l : List UInt8) : tcore (c4 ++ l) = (k4 ++ (tcore l).1, (tcore l).2) := by
  have h := tcore_symb (s := 123) (a := [125, 32, 114, 101, 116, 117, 114, 110, 115, 32]) (b := l) (K := [(3, [125], 0), (1, [114, 101, 116, 117, 114, 110, 115], 0)]) (by rfl) (by decide) (by decide) (by decide) (by decide)
  exact h
abbrev cx : List UInt8 := [113, 117, 101, 115, 116, 105, 111, 110, 32, 113, 32, 103, 105, 118, 101, 115, 32, 55, 32, 111, 118, 101, 114, 114, 105, 100, 101, 115, 32, 40]
abbrev kx : List Core := [(1, [113, 117, 101, 115, 116, 105, 111, 110], 0), (1, [113], 0), (1, [103, 105, 118, 101, 115], 0), (2, [55], 7), (1, [111, 118, 101, 114, 114, 105, 100, 101, 115], 0), (3, [40], 0)]
theorem tc_cx (l : List UInt8) : tcore (cx ++ l) = (kx ++ (tcore l).1, (tcore l).2) := by
  have h := tcore_symb (s := 40) (a := [113, 117, 101, 115, 116, 105, 111, 110, 32, 113, 32, 103, 105, 118, 101, 115, 32, 55, 32, 111, 118, 101, 114, 114, 105, 100, 101, 115, 32]) (b := l) (K := [(1, [113, 117, 101, 115, 116, 105, 111, 110], 0), (1, [113], 0), (1, [103, 105, 118, 101, 115], 0), (2, [55], 7), (1, [111, 118, 101, 114, 114, 105, 100, 101, 115], 0)]) (by rfl) (by decide) (by decide) (by decide) (by decide)
  exact h
abbrev cs : List UInt8 := [113, 117, 101, 115, 116, 105, 111, 110, 32, 113, 32, 103, 105, 118, 101, 115, 32, 55, 32, 115, 116, 97, 114, 116, 115, 32, 123]
abbrev ks : List Core := [(1, [113, 117, 101, 115, 116, 105, 111, 110], 0), (1, [113], 0), (1, [103, 105, 118, 101, 115], 0), (2, [55], 7), (1, [115, 116, 97, 114, 116, 115], 0), (3, [123], 0)]
theorem tc_cs (l : List UInt8) : tcore (cs ++ l) = (ks ++ (tcore l).1, (tcore l).2) := by
  have h := tcore_symb (s := 123) (a := [113, 117, 101, 115, 116, 105, 111, 110, 32, 113, 32, 103, 105, 118, 101, 115, 32, 55, 32, 115, 116, 97, 114, 116, 115, 32]) (b := l) (K := [(1, [113, 117, 101, 115, 116, 105, 111, 110], 0), (1, [113], 0), (1, [103, 105, 118, 101, 115], 0), (2, [55], 7), (1, [115, 116, 97, 114, 116, 115], 0)]) (by rfl) (by decide) (by decide) (by decide) (by decide)
  exact h
abbrev ce : List UInt8 := [113, 117, 101, 115, 116, 105, 111, 110, 32, 113, 32, 103, 105, 118, 101, 115, 32, 55, 32, 101, 110, 100, 115, 32, 123]
abbrev ke : List Core := [(1, [113, 117, 101, 115, 116, 105, 111, 110], 0), (1, [113], 0), (1, [103, 105, 118, 101, 115], 0), (2, [55], 7), (1, [101, 110, 100, 115], 0), (3, [123], 0)]
theorem tc_ce (l : List UInt8) : tcore (ce ++ l) = (ke ++ (tcore l).1, (tcore l).2) := by
  have h := tcore_symb (s := 123) (a := [113, 117, 101, 115, 116, 105, 111, 110, 32, 113, 32, 103, 105, 118, 101, 115, 32, 55, 32, 101, 110, 100, 115, 32]) (b := l) (K := [(1, [113, 117, 101, 115, 116, 105, 111, 110], 0), (1, [113], 0), (1, [103, 105, 118, 101, 115], 0), (2, [55], 7), (1, [101, 110, 100, 115], 0)]) (by rfl) (by decide) (by decide) (by decide) (by decide)
  exact h
abbrev cr : List UInt8 := [113, 117, 101, 115, 116, 105, 111, 110, 32, 113, 32, 103, 105, 118, 101, 115, 32, 55, 32, 114, 101, 116, 117, 114, 110, 115, 32, 123]
abbrev kr : List Core := [(1, [113, 117, 101, 115, 116, 105, 111, 110], 0), (1, [113], 0), (1, [103, 105, 118, 101, 115], 0), (2, [55], 7), (1, [114, 101, 116, 117, 114, 110, 115], 0), (3, [123], 0)]
theorem tc_cr (l : List UInt8) : tcore (cr ++ l) = (kr ++ (tcore l).1, (tcore l).2) := by
  have h := tcore_symb (s := 123) (a := [113, 117, 101, 115, 116, 105, 111, 110, 32, 113, 32, 103, 105, 118, 101, 115, 32, 55, 32, 114, 101, 116, 117, 114, 110, 115, 32]) (b := l) (K := [(1, [113, 117, 101, 115, 116, 105, 111, 110], 0), (1, [113], 0), (1, [103, 105, 118, 101, 115], 0), (2, [55], 7), (1, [114, 101, 116, 117, 114, 110, 115], 0)]) (by rfl) (by decide) (by decide) (by decide) (by decide)
  exact h
abbrev d1 : List UInt8 := [125, 32, 113, 117, 101, 115, 116, 105, 111, 110, 32, 113, 32, 103, 105, 118, 101, 115, 32, 55, 32, 91, 99, 104, 97, 114, 116, 101, 114, 32, 112, 93]
abbrev kd1 : List Core := [(3, [125], 0), (1, [113, 117, 101, 115, 116, 105, 111, 110], 0), (1, [113], 0), (1, [103, 105, 118, 101, 115], 0), (2, [55], 7), (3, [91], 0), (1, [99, 104, 97, 114, 116, 101, 114], 0), (1, [112], 0), (3, [93], 0)]
theorem tc_d1 : tcore d1 = (kd1, false) := by rfl
abbrev d2 : List UInt8 := [41, 32, 91, 99, 104, 97, 114, 116, 101, 114, 32, 112, 93]
abbrev kd2 : List Core := [(3, [41], 0), (3, [91], 0), (1, [99, 104, 97, 114, 116, 101, 114], 0), (1, [112], 0), (3, [93], 0)]
theorem tc_d2 : tcore d2 = (kd2, false) := by rfl
abbrev d3 : List UInt8 := [125, 32, 91, 99, 104, 97, 114, 116, 101, 114, 32, 112, 93]
abbrev kd3 : List Core := [(3, [125], 0), (3, [91], 0), (1, [99, 104, 97, 114, 116, 101, 114], 0), (1, [112], 0), (3, [93], 0)]
theorem tc_d3 : tcore d3 = (kd3, false) := by rfl
abbrev kTl : List Core := [(3, [91], 0), (1, [99, 104, 97, 114, 116, 101, 114], 0), (1, [112], 0), (3, [93], 0)]
def textW (a : List UInt8) : List UInt8 := bWhere ++ (a ++ 10 :: d1)
def textX (a : List UInt8) : List UInt8 := cx ++ (a ++ 10 :: d2)
def textS (a : List UInt8) : List UInt8 := cs ++ (a ++ 10 :: d3)
def textE (a : List UInt8) : List UInt8 := ce ++ (a ++ 10 :: d3)
def textR (a : List UInt8) : List UInt8 := cr ++ (a ++ 10 :: d3)
def textA (a x s e r : List UInt8) : List UInt8 := bWhere ++ (a ++ 10 :: (c1 ++ (x ++ 10 :: (c2 ++ (s ++ 10 :: (c3 ++ (e ++ 10 :: (c4 ++ (r ++ 10 :: d3)))))))))
theorem names_out : ∀ (n : Nat) (out e : List (List UInt8)) (l r : List Tok), namesF n out l = .ok (e, r) → ∃ u t1, l = u ++ t1 :: r ∧ t1.text = [41] ∧ ∀ r', namesF n out (u ++ t1 :: r') = .ok (e, r')
  | 0, out, e, l, r, h => by cases h
  | n + 1, out, e, l, r, h => by
    unfold namesF at h
    obtain ⟨s, r1, hn, h⟩ := bind_ok h
    obtain ⟨t, u, rfl, hu⟩ := OwnN.name _ _ _ hn
    unfold guardR at h
    split at h
    · rename_i hc
      unfold isF at h
      split at h
      · rename_i hs
        obtain ⟨t1, v, rfl, h1, h2⟩ := sees_cons hs
        cases h
        refine ⟨t :: u, t1, rfl, by simpa using h2, fun r' => ?_⟩
        rw [List.cons_append, namesF, hu]
        simp only [bindR, guardR, isF]
        rw [if_pos hc, if_pos (by rw [← hs]; rfl)]
        rfl
      · rename_i hs
        obtain ⟨v, t1, rfl, h1, h2⟩ := names_out n _ _ _ _ h
        refine ⟨t :: (u ++ v), t1, by simp, h1, fun r' => ?_⟩
        rw [List.cons_append, List.append_assoc, namesF, hu]
        simp only [bindR, guardR, isF]
        rw [if_pos hc, if_neg, h2]
        cases v with
        | nil => exact hs
        | cons a v => exact hs
    · cases h
theorem exc_out {l r : List Tok} {e : List (List UInt8)} (h : excF l = .ok (e, r)) : ∃ t0 u t1, l = t0 :: (u ++ t1 :: r) ∧ t1.text = [41] ∧ ∀ r', excF (t0 :: (u ++ t1 :: r')) = .ok (e, r') := by
  unfold excF at h
  obtain ⟨_, r1, h0, h'⟩ := bind_ok h
  obtain ⟨t0, rfl, a1, a2⟩ := must_ok h0
  obtain ⟨u, t1, rfl, h1, h2⟩ := names_out _ _ _ _ _ h'
  refine ⟨t0, u, t1, rfl, h1, fun r' => ?_⟩
  unfold excF
  rw [must_in a1 a2]
  exact h2 r'
theorem form_alone {K T : List Core} {x : Tree} {r : List Tok} (hK : ∀ c ∈ K, c.2.1 ≠ [125]) (hT : ∀ c ∈ T, c.2.1 ≠ [125]) (h : formulaF (toks ((3, [123], 0) :: (K ++ (3, [125], 0) :: T))) = .ok (x, r)) : r = toks T ∧ ∀ M : List Core, formulaF (toks ((3, [123], 0) :: (K ++ (3, [125], 0) :: M))) = .ok (x, toks M) := by
  obtain ⟨t0, u, t1, n, d, he, h1, h2, hn, hr⟩ := braces_out (fun _ _ _ => rfl) OwnN.item h
  have e : ∀ M : List Core, toks ((3, [123], 0) :: (K ++ (3, [125], 0) :: M)) = tok0 (3, [123], 0) :: (toks K ++ tok0 (3, [125], 0) :: toks M) := fun M => by
    show tok0 (3, [123], 0) :: toks (K ++ (3, [125], 0) :: M) = _
    rw [toks_app]; rfl
  rw [e] at he
  injection he with _ he
  obtain ⟨rfl, -, rfl⟩ := split_one (p := fun t => t.text == [125]) (by simp [h2]) he (toks_text hK) (toks_text hT)
  exact ⟨rfl, fun M => by rw [e]; exact braces_in rfl rfl rfl rfl hn hr _⟩
theorem start_alone {K T : List Core} {x : Tree} {r : List Tok} (hK : ∀ c ∈ K, c.2.1 ≠ [125]) (hT : ∀ c ∈ T, c.2.1 ≠ [125]) (h : startF (toks ((3, [123], 0) :: (K ++ (3, [125], 0) :: T))) = .ok (x, r)) : r = toks T ∧ ∀ M : List Core, startF (toks ((3, [123], 0) :: (K ++ (3, [125], 0) :: M))) = .ok (x, toks M) := by
  obtain ⟨t0, u, t1, n, d, he, h1, h2, hn, hr⟩ := braces_out (fun _ _ _ => rfl) OwnN.sitem h
  have e : ∀ M : List Core, toks ((3, [123], 0) :: (K ++ (3, [125], 0) :: M)) = tok0 (3, [123], 0) :: (toks K ++ tok0 (3, [125], 0) :: toks M) := fun M => by
    show tok0 (3, [123], 0) :: toks (K ++ (3, [125], 0) :: M) = _
    rw [toks_app]; rfl
  rw [e] at he
  injection he with _ he
  obtain ⟨rfl, -, rfl⟩ := split_one (p := fun t => t.text == [125]) (by simp [h2]) he (toks_text hK) (toks_text hT)
  exact ⟨rfl, fun M => by rw [e]; exact braces_in rfl rfl rfl rfl hn hr _⟩
theorem exc_alone {K T : List Core} {x : List (List UInt8)} {r : List Tok} (hK : ∀ c ∈ K, c.2.1 ≠ [41]) (hT : ∀ c ∈ T, c.2.1 ≠ [41]) (h : excF (toks ((3, [40], 0) :: (K ++ (3, [41], 0) :: T))) = .ok (x, r)) : r = toks T ∧ ∀ M : List Core, excF (toks ((3, [40], 0) :: (K ++ (3, [41], 0) :: M))) = .ok (x, toks M) := by
  obtain ⟨t0, u, t1, he, h2, hr⟩ := exc_out h
  have e : ∀ M : List Core, toks ((3, [40], 0) :: (K ++ (3, [41], 0) :: M)) = tok0 (3, [40], 0) :: (toks K ++ tok0 (3, [41], 0) :: toks M) := fun M => by
    show tok0 (3, [40], 0) :: toks (K ++ (3, [41], 0) :: M) = _
    rw [toks_app]; rfl
  rw [e] at he
  injection he with he0 he
  obtain ⟨rfl, rfl, rfl⟩ := split_one (p := fun t => t.text == [41]) (by simp [h2]) he (toks_text hK) (toks_text hT)
  subst he0
  exact ⟨rfl, fun M => by rw [e]; exact hr _⟩
theorem kind_q (M : List Core) : kindF (toks ([(1, [113, 117, 101, 115, 116, 105, 111, 110], 0), (1, [113], 0), (1, [103, 105, 118, 101, 115], 0), (2, [55], 7)] ++ M)) = .ok ((2, [113], 7), toks M) := rfl
theorem where_part {K : List Core} (hK : ∀ c ∈ K, c.2.1 ≠ [125]) {p : Prov} {s : List Tok} (h : pr (toks (kWhere ++ (K ++ kd1))) = .ok (p, s)) : ∀ M : List Core, formulaF (toks ((3, [123], 0) :: (K ++ (3, [125], 0) :: M))) = .ok (p.cond, toks M) := by
  have h := pr_prov h
  unfold provF at h
  obtain ⟨c, r1, hc, h⟩ := bind_ok h
  rw [opt_yes (by rfl)] at hc
  obtain ⟨rfl, hall⟩ := form_alone (T := [(1, [113, 117, 101, 115, 116, 105, 111, 110], 0), (1, [113], 0), (1, [103, 105, 118, 101, 115], 0), (2, [55], 7), (3, [91], 0), (1, [99, 104, 97, 114, 116, 101, 114], 0), (1, [112], 0), (3, [93], 0)]) hK (by decide) hc
  have hfld : p.cond = c := by
    obtain ⟨k, r2, hk, h⟩ := bind_ok h
    obtain ⟨e, r3, he, h⟩ := bind_ok h
    obtain ⟨b, r4, hb, h⟩ := bind_ok h
    obtain ⟨f, r5, hf, h⟩ := bind_ok h
    obtain ⟨g, r6, hg, h⟩ := bind_ok h
    obtain ⟨u1, r7, h7, h⟩ := bind_ok h
    obtain ⟨rk, r8, h8, h⟩ := bind_ok h
    obtain ⟨id, r9, h9, h⟩ := bind_ok h
    obtain ⟨u4, r10, -, h⟩ := bind_ok h
    cases h
    rfl
  rw [hfld]
  exact hall
theorem exc_part {K : List Core} (hK : ∀ c ∈ K, c.2.1 ≠ [41]) {p : Prov} {s : List Tok} (h : pr (toks (kx ++ (K ++ kd2))) = .ok (p, s)) : ∀ M : List Core, excF (toks ((3, [40], 0) :: (K ++ (3, [41], 0) :: M))) = .ok (p.exc, toks M) := by
  have h := pr_prov h
  unfold provF at h
  obtain ⟨c, r1, hc, h⟩ := bind_ok h
  rw [opt_not (by rfl)] at hc
  cases hc
  obtain ⟨k, r2, hk, h⟩ := bind_ok h
  rw [show toks (kx ++ (K ++ kd2)) = toks ([(1, [113, 117, 101, 115, 116, 105, 111, 110], 0), (1, [113], 0), (1, [103, 105, 118, 101, 115], 0), (2, [55], 7)] ++ ((1, [111, 118, 101, 114, 114, 105, 100, 101, 115], 0) :: (3, [40], 0) :: (K ++ kd2))) from rfl, kind_q] at hk
  cases hk
  obtain ⟨e, r3, he, h⟩ := bind_ok h
  rw [opt_yes (by rfl)] at he
  obtain ⟨rfl, hall⟩ := exc_alone (T := kTl) hK (by decide) he
  have hfld : p.exc = e := by
    obtain ⟨b, r4, hb, h⟩ := bind_ok h
    obtain ⟨f, r5, hf, h⟩ := bind_ok h
    obtain ⟨g, r6, hg, h⟩ := bind_ok h
    obtain ⟨u1, r7, h7, h⟩ := bind_ok h
    obtain ⟨rk, r8, h8, h⟩ := bind_ok h
    obtain ⟨id, r9, h9, h⟩ := bind_ok h
    obtain ⟨u4, r10, -, h⟩ := bind_ok h
    cases h
    rfl
  rw [hfld]
  exact hall
theorem beg_part {K : List Core} (hK : ∀ c ∈ K, c.2.1 ≠ [125]) {p : Prov} {s : List Tok} (h : pr (toks (ks ++ (K ++ kd3))) = .ok (p, s)) : ∀ M : List Core, startF (toks ((3, [123], 0) :: (K ++ (3, [125], 0) :: M))) = .ok (p.beg, toks M) := by
  have h := pr_prov h
  unfold provF at h
  obtain ⟨c, r1, hc, h⟩ := bind_ok h
  rw [opt_not (by rfl)] at hc
  cases hc
  obtain ⟨k, r2, hk, h⟩ := bind_ok h
  rw [show toks (ks ++ (K ++ kd3)) = toks ([(1, [113, 117, 101, 115, 116, 105, 111, 110], 0), (1, [113], 0), (1, [103, 105, 118, 101, 115], 0), (2, [55], 7)] ++ ((1, [115, 116, 97, 114, 116, 115], 0) :: (3, [123], 0) :: (K ++ kd3))) from rfl, kind_q] at hk
  cases hk
  obtain ⟨e, r3, he, h⟩ := bind_ok h
  rw [opt_not (by rfl)] at he
  cases he
  obtain ⟨b, r4, hb, h⟩ := bind_ok h
  rw [opt_yes (by rfl)] at hb
  obtain ⟨rfl, hall⟩ := start_alone (T := kTl) hK (by decide) hb
  have hfld : p.beg = b := by
    obtain ⟨f, r5, hf, h⟩ := bind_ok h
    obtain ⟨g, r6, hg, h⟩ := bind_ok h
    obtain ⟨u1, r7, h7, h⟩ := bind_ok h
    obtain ⟨rk, r8, h8, h⟩ := bind_ok h
    obtain ⟨id, r9, h9, h⟩ := bind_ok h
    obtain ⟨u4, r10, -, h⟩ := bind_ok h
    cases h
    rfl
  rw [hfld]
  exact hall
theorem fin_part {K : List Core} (hK : ∀ c ∈ K, c.2.1 ≠ [125]) {p : Prov} {s : List Tok} (h : pr (toks (ke ++ (K ++ kd3))) = .ok (p, s)) : ∀ M : List Core, startF (toks ((3, [123], 0) :: (K ++ (3, [125], 0) :: M))) = .ok (p.fin, toks M) := by
  have h := pr_prov h
  unfold provF at h
  obtain ⟨c, r1, hc, h⟩ := bind_ok h
  rw [opt_not (by rfl)] at hc
  cases hc
  obtain ⟨k, r2, hk, h⟩ := bind_ok h
  rw [show toks (ke ++ (K ++ kd3)) = toks ([(1, [113, 117, 101, 115, 116, 105, 111, 110], 0), (1, [113], 0), (1, [103, 105, 118, 101, 115], 0), (2, [55], 7)] ++ ((1, [101, 110, 100, 115], 0) :: (3, [123], 0) :: (K ++ kd3))) from rfl, kind_q] at hk
  cases hk
  obtain ⟨e, r3, he, h⟩ := bind_ok h
  rw [opt_not (by rfl)] at he
  cases he
  obtain ⟨b, r4, hb, h⟩ := bind_ok h
  rw [opt_not (by rfl)] at hb
  cases hb
  obtain ⟨f, r5, hf, h⟩ := bind_ok h
  rw [opt_yes (by rfl)] at hf
  obtain ⟨rfl, hall⟩ := start_alone (T := kTl) hK (by decide) hf
  have hfld : p.fin = f := by
    obtain ⟨g, r6, hg, h⟩ := bind_ok h
    obtain ⟨u1, r7, h7, h⟩ := bind_ok h
    obtain ⟨rk, r8, h8, h⟩ := bind_ok h
    obtain ⟨id, r9, h9, h⟩ := bind_ok h
    obtain ⟨u4, r10, -, h⟩ := bind_ok h
    cases h
    rfl
  rw [hfld]
  exact hall
theorem aga_part {K : List Core} (hK : ∀ c ∈ K, c.2.1 ≠ [125]) {p : Prov} {s : List Tok} (h : pr (toks (kr ++ (K ++ kd3))) = .ok (p, s)) : ∀ M : List Core, startF (toks ((3, [123], 0) :: (K ++ (3, [125], 0) :: M))) = .ok (p.aga, toks M) := by
  have h := pr_prov h
  unfold provF at h
  obtain ⟨c, r1, hc, h⟩ := bind_ok h
  rw [opt_not (by rfl)] at hc
  cases hc
  obtain ⟨k, r2, hk, h⟩ := bind_ok h
  rw [show toks (kr ++ (K ++ kd3)) = toks ([(1, [113, 117, 101, 115, 116, 105, 111, 110], 0), (1, [113], 0), (1, [103, 105, 118, 101, 115], 0), (2, [55], 7)] ++ ((1, [114, 101, 116, 117, 114, 110, 115], 0) :: (3, [123], 0) :: (K ++ kd3))) from rfl, kind_q] at hk
  cases hk
  obtain ⟨e, r3, he, h⟩ := bind_ok h
  rw [opt_not (by rfl)] at he
  cases he
  obtain ⟨b, r4, hb, h⟩ := bind_ok h
  rw [opt_not (by rfl)] at hb
  cases hb
  obtain ⟨f, r5, hf, h⟩ := bind_ok h
  rw [opt_not (by rfl)] at hf
  cases hf
  obtain ⟨g, r6, hg, h⟩ := bind_ok h
  rw [opt_yes (by rfl)] at hg
  obtain ⟨rfl, hall⟩ := start_alone (T := kTl) hK (by decide) hg
  have hfld : p.aga = g := by
    obtain ⟨u1, r7, h7, h⟩ := bind_ok h
    obtain ⟨rk, r8, h8, h⟩ := bind_ok h
    obtain ⟨id, r9, h9, h⟩ := bind_ok h
    obtain ⟨u4, r10, -, h⟩ := bind_ok h
    cases h
    rfl
  rw [hfld]
  exact hall
theorem textW_ok {a : List UInt8} (ha : a.length ≤ 500) (hb : 125 ∉ a) (h : outE (textW a) = 0) : (tcore a).2 = false ∧ ∀ M : List Core, formulaF (toks ((3, [123], 0) :: ((tcore a).1 ++ (3, [125], 0) :: M))) = .ok ((outP (textW a)).cond, toks M) := by
  obtain ⟨h2, s, hp⟩ := core_of_ok (l := textW a) (by unfold textW; simp; omega) h
  have ht : tcore (textW a) = if (tcore a).2 then (kWhere ++ (tcore a).1, true) else (kWhere ++ ((tcore a).1 ++ kd1), false) := by
    unfold textW
    rw [tc_bWhere, tcore_join, tc_d1]
    split <;> rfl
  rw [ht] at h2 hp
  cases hc : (tcore a).2 with
  | true => rw [hc] at h2; cases h2
  | false =>
    rw [hc] at hp
    exact ⟨rfl, where_part (fun c hm hx => hb (core_bytes hm 125 (by rw [hx]; simp))) hp⟩
theorem textX_ok {a : List UInt8} (ha : a.length ≤ 500) (hb : 41 ∉ a) (h : outE (textX a) = 0) : (tcore a).2 = false ∧ ∀ M : List Core, excF (toks ((3, [40], 0) :: ((tcore a).1 ++ (3, [41], 0) :: M))) = .ok ((outP (textX a)).exc, toks M) := by
  obtain ⟨h2, s, hp⟩ := core_of_ok (l := textX a) (by unfold textX; simp; omega) h
  have ht : tcore (textX a) = if (tcore a).2 then (kx ++ (tcore a).1, true) else (kx ++ ((tcore a).1 ++ kd2), false) := by
    unfold textX
    rw [tc_cx, tcore_join, tc_d2]
    split <;> rfl
  rw [ht] at h2 hp
  cases hc : (tcore a).2 with
  | true => rw [hc] at h2; cases h2
  | false =>
    rw [hc] at hp
    exact ⟨rfl, exc_part (fun c hm hx => hb (core_bytes hm 41 (by rw [hx]; simp))) hp⟩
theorem textS_ok {a : List UInt8} (ha : a.length ≤ 500) (hb : 125 ∉ a) (h : outE (textS a) = 0) : (tcore a).2 = false ∧ ∀ M : List Core, startF (toks ((3, [123], 0) :: ((tcore a).1 ++ (3, [125], 0) :: M))) = .ok ((outP (textS a)).beg, toks M) := by
  obtain ⟨h2, s, hp⟩ := core_of_ok (l := textS a) (by unfold textS; simp; omega) h
  have ht : tcore (textS a) = if (tcore a).2 then (ks ++ (tcore a).1, true) else (ks ++ ((tcore a).1 ++ kd3), false) := by
    unfold textS
    rw [tc_cs, tcore_join, tc_d3]
    split <;> rfl
  rw [ht] at h2 hp
  cases hc : (tcore a).2 with
  | true => rw [hc] at h2; cases h2
  | false =>
    rw [hc] at hp
    exact ⟨rfl, beg_part (fun c hm hx => hb (core_bytes hm 125 (by rw [hx]; simp))) hp⟩
theorem textE_ok {a : List UInt8} (ha : a.length ≤ 500) (hb : 125 ∉ a) (h : outE (textE a) = 0) : (tcore a).2 = false ∧ ∀ M : List Core, startF (toks ((3, [123], 0) :: ((tcore a).1 ++ (3, [125], 0) :: M))) = .ok ((outP (textE a)).fin, toks M) := by
  obtain ⟨h2, s, hp⟩ := core_of_ok (l := textE a) (by unfold textE; simp; omega) h
  have ht : tcore (textE a) = if (tcore a).2 then (ke ++ (tcore a).1, true) else (ke ++ ((tcore a).1 ++ kd3), false) := by
    unfold textE
    rw [tc_ce, tcore_join, tc_d3]
    split <;> rfl
  rw [ht] at h2 hp
  cases hc : (tcore a).2 with
  | true => rw [hc] at h2; cases h2
  | false =>
    rw [hc] at hp
    exact ⟨rfl, fin_part (fun c hm hx => hb (core_bytes hm 125 (by rw [hx]; simp))) hp⟩
theorem textR_ok {a : List UInt8} (ha : a.length ≤ 500) (hb : 125 ∉ a) (h : outE (textR a) = 0) : (tcore a).2 = false ∧ ∀ M : List Core, startF (toks ((3, [123], 0) :: ((tcore a).1 ++ (3, [125], 0) :: M))) = .ok ((outP (textR a)).aga, toks M) := by
  obtain ⟨h2, s, hp⟩ := core_of_ok (l := textR a) (by unfold textR; simp; omega) h
  have ht : tcore (textR a) = if (tcore a).2 then (kr ++ (tcore a).1, true) else (kr ++ ((tcore a).1 ++ kd3), false) := by
    unfold textR
    rw [tc_cr, tcore_join, tc_d3]
    split <;> rfl
  rw [ht] at h2 hp
  cases hc : (tcore a).2 with
  | true => rw [hc] at h2; cases h2
  | false =>
    rw [hc] at hp
    exact ⟨rfl, aga_part (fun c hm hx => hb (core_bytes hm 125 (by rw [hx]; simp))) hp⟩
theorem all_parts {A X S E G : List Core} {a s e g : Tree} {x : List (List UInt8)} (hA : ∀ M : List Core, formulaF (toks ((3, [123], 0) :: (A ++ (3, [125], 0) :: M))) = .ok (a, toks M)) (hX : ∀ M : List Core, excF (toks ((3, [40], 0) :: (X ++ (3, [41], 0) :: M))) = .ok (x, toks M))
    (hS : ∀ M : List Core, startF (toks ((3, [123], 0) :: (S ++ (3, [125], 0) :: M))) = .ok (s, toks M)) (hE : ∀ M : List Core, startF (toks ((3, [123], 0) :: (E ++ (3, [125], 0) :: M))) = .ok (e, toks M)) (hG : ∀ M : List Core, startF (toks ((3, [123], 0) :: (G ++ (3, [125], 0) :: M))) = .ok (g, toks M)) :
    pr (toks (kWhere ++ (A ++ (k1 ++ (X ++ (k2 ++ (S ++ (k3 ++ (E ++ (k4 ++ (G ++ kd3))))))))))) = .ok (⟨[112], 1, 2, [113], 7, a, x, s, e, g⟩, []) := by
  refine pr_of ?_
  unfold provF
  rw [opt_yes (by rfl)]
  have e1 := hA ([(1, [113, 117, 101, 115, 116, 105, 111, 110], 0), (1, [113], 0), (1, [103, 105, 118, 101, 115], 0), (2, [55], 7)] ++ ((1, [111, 118, 101, 114, 114, 105, 100, 101, 115], 0) :: (3, [40], 0) :: (X ++ (k2 ++ (S ++ (k3 ++ (E ++ (k4 ++ (G ++ kd3)))))))))
  have e1' : formulaF (toks (kWhere ++ (A ++ (k1 ++ (X ++ (k2 ++ (S ++ (k3 ++ (E ++ (k4 ++ (G ++ kd3))))))))))).tail = _ := e1
  rw [e1']
  simp only [bindR]
  rw [kind_q]
  simp only []
  rw [opt_yes (by rfl)]
  have e2 := hX ((1, [115, 116, 97, 114, 116, 115], 0) :: (3, [123], 0) :: (S ++ (k3 ++ (E ++ (k4 ++ (G ++ kd3))))))
  have e2' : excF (toks ((1, [111, 118, 101, 114, 114, 105, 100, 101, 115], 0) :: (3, [40], 0) :: (X ++ (k2 ++ (S ++ (k3 ++ (E ++ (k4 ++ (G ++ kd3))))))))).tail = _ := e2
  rw [e2']
  simp only []
  rw [opt_yes (by rfl)]
  have e3 := hS ((1, [101, 110, 100, 115], 0) :: (3, [123], 0) :: (E ++ (k4 ++ (G ++ kd3))))
  have e3' : startF (toks ((1, [115, 116, 97, 114, 116, 115], 0) :: (3, [123], 0) :: (S ++ (k3 ++ (E ++ (k4 ++ (G ++ kd3))))))).tail = _ := e3
  rw [e3']
  simp only []
  rw [opt_yes (by rfl)]
  have e4 := hE ((1, [114, 101, 116, 117, 114, 110, 115], 0) :: (3, [123], 0) :: (G ++ kd3))
  have e4' : startF (toks ((1, [101, 110, 100, 115], 0) :: (3, [123], 0) :: (E ++ (k4 ++ (G ++ kd3))))).tail = _ := e4
  rw [e4']
  simp only []
  rw [opt_yes (by rfl)]
  have e5 := hG kTl
  have e5' : startF (toks ((1, [114, 101, 116, 117, 114, 110, 115], 0) :: (3, [123], 0) :: (G ++ kd3))).tail = _ := e5
  rw [e5']
  rfl
theorem tc_textA {a x s e g : List UInt8} (ha : (tcore a).2 = false) (hx : (tcore x).2 = false) (hs : (tcore s).2 = false) (he : (tcore e).2 = false) (hg : (tcore g).2 = false) :
    tcore (textA a x s e g) = (kWhere ++ ((tcore a).1 ++ (k1 ++ ((tcore x).1 ++ (k2 ++ ((tcore s).1 ++ (k3 ++ ((tcore e).1 ++ (k4 ++ ((tcore g).1 ++ kd3))))))))), false) := by
  unfold textA
  rw [tc_bWhere, tcore_join, ha, tc_c1, tcore_join, hx, tc_c2, tcore_join, hs, tc_c3, tcore_join, he, tc_c4, tcore_join, hg, tc_d3]
  rfl
theorem parts_law {a x s e g : List UInt8} (la : a.length ≤ 500) (lx : x.length ≤ 500) (ls : s.length ≤ 500) (le : e.length ≤ 500) (lg : g.length ≤ 500) (pa : 125 ∉ a) (px : 41 ∉ x) (ps : 125 ∉ s) (pe : 125 ∉ e) (pg : 125 ∉ g)
    (ha : outE (textW a) = 0) (hx : outE (textX x) = 0) (hs : outE (textS s) = 0) (he : outE (textE e) = 0) (hg : outE (textR g) = 0) :
    outE (textA a x s e g) = 0 ∧ outP (textA a x s e g) = ⟨[112], 1, 2, [113], 7, (outP (textW a)).cond, (outP (textX x)).exc, (outP (textS s)).beg, (outP (textE e)).fin, (outP (textR g)).aga⟩ := by
  obtain ⟨a2, hA⟩ := textW_ok la pa ha
  obtain ⟨x2, hX⟩ := textX_ok lx px hx
  obtain ⟨s2, hS⟩ := textS_ok ls ps hs
  obtain ⟨e2, hE⟩ := textE_ok le pe he
  obtain ⟨g2, hG⟩ := textR_ok lg pg hg
  exact core_ok (by unfold textA; simp; omega) (tc_textA a2 x2 s2 e2 g2) (all_parts hA hX hS hE hG)
end Go.Proofs.YtcekampdldkjlaaDoor
