/- Plain laws of the lexer and the parser. -/
import Derived.Test.YtbicmjmcdnkjhaaGreatDoorJP2
set_option linter.unusedVariables false
set_option linter.unusedSimpArgs false
namespace Go.Proofs.YtbicmjmcdnkjhaaGreatDoor
/- What stands before a condition, and behind it; conditions joined. -/
/- a separator: a blank, where the first text has no comment -/
theorem sc_sep (a b : List UInt8) (x : UInt8) (hx : blankB x = true) (ha : ∀ c ∈ a, c ≠ 35) (p : Nat) : sc (a ++ x :: b) p =
    match (sc a p).2 with
    | some e => ((sc a p).1, some e)
    | none => ((sc a p).1 ++ (sc b (p + a.length + 1)).1, (sc b (p + a.length + 1)).2) := by
  have hw : wordB x = false := by
    simp [blankB] at hx
    rcases hx with (rfl | rfl) | rfl <;> decide
  have h61 : x ≠ 61 := by rintro rfl; revert hx; decide
  revert ha
  refine sc_ind (M := fun a p => (∀ c ∈ a, c ≠ 35) → sc (a ++ x :: b) p =
    match (sc a p).2 with
    | some e => ((sc a p).1, some e)
    | none => ((sc a p).1 ++ (sc b (p + a.length + 1)).1, (sc b (p + a.length + 1)).2)) ?_ ?_ ?_ ?_ ?_ a.length a p (Nat.le_refl _)
  · intro p _
    rw [List.nil_append, sc_blank _ _ hx]
    simp [sc_nil]
  · intro c r p h ih ha
    rw [List.cons_append, sc_blank _ _ h, sc_blank _ _ h, ih (fun c hc => ha c (by simp [hc]))]
    rw [show p + 1 + r.length + 1 = p + (c :: r).length + 1 by simp; omega]
  · intro r p ih ha
    exact absurd rfl (ha 35 (by simp))
  · intro c r p e h1 h2 h3 ha
    rw [List.cons_append, sc_err _ h1 h2 h3, sc_err _ h1 h2 (by rw [lexOne_sep r b hw h61]; exact h3)]
  · intro c r p j n v h1 h2 h3 ih ha
    have hn := lexOne_len h3
    rw [List.cons_append, sc_tok _ h1 h2 h3, sc_tok _ h1 h2 (by rw [lexOne_sep r b hw h61]; exact h3), sep_drop _ _ _ _ (by omega), ih (fun c hc => ha c (by simp [List.mem_of_mem_drop hc]))]
    rw [show p + n + (r.drop (n - 1)).length + 1 = p + (c :: r).length + 1 by simp; omega]
    have : (c :: (r ++ x :: b)).take n = (c :: r).take n := by
      rw [← List.cons_append, List.take_append_of_le_length (by simp; omega)]
    rw [this]
    cases h : (sc (r.drop (n - 1)) (p + n)).2 with
    | none => simp
    | some e => simp
/- a symbol of one byte -/
theorem sc_sym {c : UInt8} (r : List UInt8) (p : Nat) (h : symB c = true) (h1 : blankB c = false) (h2 : c ≠ 35) (h3 : letterB c = false) (h4 : digitB c = false) : sc (c :: r) p = (⟨3, [c], 0, p⟩ :: (sc r (p + 1)).1, (sc r (p + 1)).2) := by
  have : lexOne c r = .ok (3, 1, 0) := by
    unfold lexOne
    rw [if_neg (by simp [h3]), if_neg (by simp [h4]), if_pos h]
  rw [sc_tok p h1 h2 this]
  simp
/- the words before a condition -/
def preW : List UInt8 := [98, 121, 108, 97, 119, 32, 112, 58, 32, 97, 110, 115, 119, 101, 114, 32, 113, 32, 105, 115, 32, 49, 32, 105, 102]
def preT : List Tok := [⟨1, [98, 121, 108, 97, 119], 0, 0⟩, ⟨1, [112], 0, 6⟩, ⟨3, [58], 0, 7⟩, ⟨1, [97, 110, 115, 119, 101, 114], 0, 9⟩, ⟨1, [113], 0, 16⟩, ⟨1, [105, 115], 0, 18⟩, ⟨2, [49], 1, 21⟩, ⟨1, [105, 102], 0, 23⟩]
theorem sc_pre (b : List UInt8) : sc (preW ++ 32 :: b) 0 = (preT ++ (sc b 26).1, (sc b 26).2) := by
  rw [sc_sep preW b 32 (by decide) (by decide)]
  have : sc preW 0 = (preT, none) := by rfl
  rw [this]
  rfl
def ruleB (x : List UInt8) : List UInt8 := preW ++ 32 :: (x ++ 10 :: [46])
def dotT (p : Nat) : Tok := ⟨3, [46], 0, p⟩
def lpT (p : Nat) : Tok := ⟨3, [40], 0, p⟩
def rpT (p : Nat) : Tok := ⟨3, [41], 0, p⟩
theorem sc_dot (p : Nat) : sc [46] p = ([dotT p], none) := by
  rw [sc_sym [] p (by decide) (by decide) (by decide) (by decide) (by decide)]; rfl
theorem sc_rule (x : List UInt8) : sc (ruleB x) 0 = match (sc x 26).2 with | some e => (preT ++ (sc x 26).1, some e) | none => (preT ++ ((sc x 26).1 ++ [dotT (26 + x.length + 1)]), none) := by
  unfold ruleB
  rw [sc_pre, sc_join x [46], sc_dot]
  cases (sc x 26).2 <;> rfl
def parB (x : List UInt8) : List UInt8 := 40 :: (x ++ 10 :: [41])
theorem sc_par (x : List UInt8) (p : Nat) : sc (parB x) p = match (sc x (p + 1)).2 with | some e => (lpT p :: (sc x (p + 1)).1, some e) | none => (lpT p :: ((sc x (p + 1)).1 ++ [rpT (p + 1 + x.length + 1)]), none) := by
  unfold parB
  rw [sc_sym _ p (by decide) (by decide) (by decide) (by decide) (by decide), sc_join x [41]]
  cases (sc x (p + 1)).2 with
  | some e => rfl
  | none =>
    simp only []
    rw [sc_sym [] _ (by decide) (by decide) (by decide) (by decide) (by decide)]; rfl
/- the parser behind those words -/
def tailF (n : Nat) (c : Tree) (l : List Tok) : R Prov :=
  bindR (excF l) fun exc r6 =>
  bindR (whenF n [102, 114, 111, 109] 1 r6) fun beg r7 =>
  bindR (whenF n [117, 110, 116, 105, 108] 2 r7) fun fin r8 =>
  bindR (whenF n [97, 103, 97, 105, 110] 2 r8) fun aga r9 =>
  bindR (mustF [[46]] r9) fun _ r' => .ok (⟨[112], 4, 2, [113], 1, c, exc, beg, fin, aga⟩, r')
theorem bindR_assoc {α β γ : Type} (p : R α) (f : α → List Tok → R β) (g : β → List Tok → R γ) : bindR (bindR p f) g = bindR p fun x r => bindR (f x r) g := by
  cases p with
  | error e => rfl
  | ok v => rfl
theorem pre_run (n : Nat) (y : List Tok) : provF n (preT ++ y) = bindR (boundedF (condF n) y) (tailF n) := by
  have h : bodyF n (preT ++ y) = bindR (boundedF (condF n) y) fun c r => bindR (excF r) fun exc r6 =>
    bindR (whenF n [102, 114, 111, 109] 1 r6) fun beg r7 => bindR (whenF n [117, 110, 116, 105, 108] 2 r7) fun fin r8 => bindR (whenF n [97, 103, 97, 105, 110] 2 r8) fun aga r9 =>
    .ok (⟨[112], 4, 2, [113], 1, c, exc, beg, fin, aga⟩, r9) := by rfl
  unfold provF
  rw [h]
  simp only [bindR_assoc]
  rfl
/- a whole condition -/
structure CondOk (x : List Tok) (a : Tree) : Prop where
  run : condF fuelN x = .ok (a, [])
  bound : boundC a = 0
theorem cond_det' (n : Nat) : Det condWords condFollow (condF n) := cond_det cond_sub (fun _ h => h) (fun _ h => h) n
theorem bad_tail (n : Nat) (c : Tree) (h : Tok) (l : List Tok) (hf : h.text ≠ [110, 111, 116, 119, 105, 116, 104, 115, 116, 97, 110, 100, 105, 110, 103] ∧ h.text ≠ [102, 114, 111, 109] ∧ h.text ≠ [117, 110, 116, 105, 108] ∧ h.text ≠ [97, 103, 97, 105, 110] ∧ h.text ≠ [46]) : tailF n c (h :: l) = .error (5, h :: l) := by
  have key : ∀ (w : List UInt8), h.text ≠ w → takeF [w] (h :: l) = (none, h :: l) := by
    intro w hw
    rcases takeF_cases [w] (h :: l) with ht | ⟨t, r, i, he, ht, hw', hi⟩
    · exact ht
    · exfalso
      cases he
      have : List.idxOf? h.text [w] = none := by rw [List.idxOf?_eq_none_iff]; simpa using hw
      rw [this] at hi; cases hi
  simp only [tailF, excF, whenF, mustF, optF, key _ hf.1, key _ hf.2.1, key _ hf.2.2.1, key _ hf.2.2.2.1, key _ hf.2.2.2.2, bindR, failR, failC]
def leafT (op : Nat) : Tree := .mk op [] 0 0 []
theorem dot_tail (n : Nat) (c : Tree) (p : Nat) : tailF n c [dotT p] = .ok (⟨[112], 4, 2, [113], 1, c, [], leafT 1, leafT 2, leafT 2⟩, []) := rfl
theorem tail_cond {n : Nat} {c : Tree} {l r : List Tok} {p : Prov} (h : tailF n c l = .ok (p, r)) : p.cond = c := by
  unfold tailF at h
  cases h1 : excF l with
  | error e => rw [h1] at h; cases h
  | ok v =>
    rw [h1] at h; simp only [bindR] at h
    cases h2 : whenF n [102, 114, 111, 109] 1 v.2 with
    | error e => rw [h2] at h; cases h
    | ok v2 =>
      rw [h2] at h; simp only [] at h
      cases h3 : whenF n [117, 110, 116, 105, 108] 2 v2.2 with
      | error e => rw [h3] at h; cases h
      | ok v3 =>
        rw [h3] at h; simp only [] at h
        cases h4 : whenF n [97, 103, 97, 105, 110] 2 v3.2 with
        | error e => rw [h4] at h; cases h
        | ok v4 =>
          rw [h4] at h; simp only [] at h
          cases h5 : mustF [[46]] v4.2 with
          | error e => rw [h5] at h; cases h
          | ok v5 => rw [h5] at h; simp only [] at h; cases h; rfl
theorem pr_pre_ok {y : List Tok} {p : Prov} (h : pr (preT ++ y) = .ok (p, [])) : ∃ a r, condF fuelN y = .ok (a, r) ∧ boundC a = 0 ∧ tailF fuelN a r = .ok (p, []) ∧ p.cond = a := by
  rcases pr_cases (preT ++ y) with ⟨p', h1, h2⟩ | ⟨p', t', v', h1, h2⟩ | ⟨e, s, h1, h2⟩
  · rw [h2] at h; cases h
    rw [pre_run] at h1
    unfold boundedF at h1
    cases hc : condF fuelN y with
    | error v => rw [hc] at h1; cases h1
    | ok v =>
      obtain ⟨a, r⟩ := v
      rw [hc] at h1
      simp only [bindR, guardR] at h1
      by_cases hb : boundC a = 0
      · rw [if_pos hb] at h1
        exact ⟨a, r, rfl, hb, h1, tail_cond h1⟩
      · rw [if_neg hb] at h1; cases h1
  · rw [h2] at h; cases h
  · rw [h2] at h; cases h
theorem drop_app_lt {u v : List Tok} {k : Nat} (h : k ≤ u.length) : (u ++ v).drop k = u.drop k ++ v := List.drop_append_of_le_length h
theorem sameT_app {u u' v : List Tok} {k : Nat} (hc : u.map core = u'.map core) (hk : k ≤ u.length) : SameT k u (u' ++ v) := by
  have hl : u.length = u'.length := by simpa using congrArg List.length hc
  refine ⟨hk, by simp; omega, ?_⟩
  rw [List.take_append_of_le_length (by omega), List.map_take, List.map_take, hc]
/- one that ends the list goes on before a token that no condition takes there -/
theorem lessF_app {F : List (List UInt8)} {u u' r : List Tok} {t : Tok} {k : Nat} (hc : u.map core = u'.map core) (hk : k ≤ u.length) (ht : t.text ∉ F) : LessF F ((u' ++ t :: r).drop k) (u.drop k) := by
  have hl : u.length = u'.length := by simpa using congrArg List.length hc
  rw [drop_app_lt (by omega)]
  have h2 : (u.drop k).map core = (u'.drop k).map core := by rw [List.map_drop, List.map_drop, hc]
  cases hq : u'.drop k with
  | nil => exact .inr (.inr ⟨t, r, rfl, fun h => ht h.2⟩)
  | cons t' r' =>
    rw [hq] at h2
    cases hq2 : u.drop k with
    | nil => rw [hq2] at h2; simp at h2
    | cons x y =>
      rw [hq2] at h2
      simp only [List.map_cons, List.cons.injEq] at h2
      exact .inr (.inl ⟨x, y, t', r' ++ t :: r, rfl, rfl, h2.1⟩)
theorem less_app {A : List (List UInt8)} {u u' r : List Tok} {t : Tok} {k : Nat} (hc : u.map core = u'.map core) (hk : k ≤ u.length) (ht : deaf A t) : Less A ((u' ++ t :: r).drop k) (u.drop k) := by
  have hl : u.length = u'.length := by simpa using congrArg List.length hc
  rw [drop_app_lt (by omega)]
  have h2 : (u.drop k).map core = (u'.drop k).map core := by rw [List.map_drop, List.map_drop, hc]
  cases hq : u'.drop k with
  | nil => exact .inr (.inr ⟨t, r, rfl, ht⟩)
  | cons t' r' =>
    rw [hq] at h2
    cases hq2 : u.drop k with
    | nil => rw [hq2] at h2; simp at h2
    | cons x y =>
      rw [hq2] at h2
      simp only [List.map_cons, List.cons.injEq] at h2
      exact .inr (.inl ⟨x, y, t', r' ++ t :: r, rfl, rfl, h2.1⟩)
theorem cond_err {n : Nat} {l : List Tok} {e : Nat × List Tok} (h : atomF (n + 1) l = .error e) : condF (n + 1) l = .error e := by
  simp only [condF, orF, andF, severalF, severalL, h, bindR]
theorem cond_one {n : Nat} {l r : List Tok} {a : Tree} (h : atomF (n + 1) l = .ok (a, r)) (h1 : takeF [[97, 110, 100]] r = (none, r)) (h2 : takeF [[111, 114]] r = (none, r)) : condF (n + 1) l = .ok (a, r) := by
  simp only [condF, orF, andF, severalF, severalL, h, bindR, optF, h1, h2, joinT]
theorem cond_and {n : Nat} {l r r1 r2 : List Tok} {a b : Tree} {i : Nat} (h : atomF (n + 2) l = .ok (a, r)) (h0 : takeF [[97, 110, 100]] r = (some i, r1)) (hb : atomF (n + 2) r1 = .ok (b, r2)) (h1 : takeF [[97, 110, 100]] r2 = (none, r2)) (h2 : takeF [[111, 114]] r2 = (none, r2)) : condF (n + 2) l = .ok (.mk 6 [] 0 0 [a, b], r2) := by
  simp only [condF, orF, andF, severalF, severalL, h, bindR, optF, h0, hb, h1, h2, joinT]
theorem cond_or {n : Nat} {l r r1 r2 : List Tok} {a b : Tree} {i : Nat} (h : atomF (n + 2) l = .ok (a, r)) (ha : takeF [[97, 110, 100]] r = (none, r)) (h0 : takeF [[111, 114]] r = (some i, r1)) (hb : atomF (n + 2) r1 = .ok (b, r2)) (h1 : takeF [[97, 110, 100]] r2 = (none, r2)) (h2 : takeF [[111, 114]] r2 = (none, r2)) : condF (n + 2) l = .ok (.mk 7 [] 0 0 [a, b], r2) := by
  simp only [condF, orF, andF, severalF, severalL, h, bindR, optF, ha, h0, hb, h1, h2, joinT]
theorem dot_deaf (p : Nat) : deaf condWords (dotT p) := ⟨fun h => absurd h (by show ¬ (3 = 2); decide), fun h => absurd h.1 (by show ¬ (3 = 1); decide), fun h => absurd h.2 (by show ¬ ([46] : List UInt8) ∈ condWords; decide)⟩
theorem atom_par {n : Nat} {l : List Tok} (p : Nat) : atomF (n + 1) (lpT p :: l) = bindR (condF n l) fun f r' => bindR (mustF [[41]] r') fun _ r'' => .ok (f, r'') := rfl
theorem cond_pure {x x' : List Tok} {p q : Prov} {d1 d2 d3 d4 : Nat} (hl : x.length + 5 < fuelN) (hc : x.map core = x'.map core) (h1 : pr (preT ++ (x ++ [dotT d1])) = .ok (p, [])) (h2 : pr (preT ++ (lpT d2 :: (x' ++ rpT d3 :: [dotT d4]))) = .ok (q, [])) : CondOk x p.cond := by
  obtain ⟨a, r1, ha, hba, hta, hpa⟩ := pr_pre_ok h1
  obtain ⟨b, r2, hb, -, -, -⟩ := pr_pre_ok h2
  have hd := cond_det' fuelN
  cases hx : condF fuelN x with
  | error v =>
    exfalso
    obtain ⟨e, s⟩ := v
    obtain ⟨j, k, hjk, hk, h3, h0, h4⟩ := hd.err _ _ _ hx
    have := h4 (x ++ [dotT d1]) (sameT_app rfl hk) (less_app rfl hk (dot_deaf d1))
    rw [ha] at this; cases this
  | ok v =>
    obtain ⟨f, r⟩ := v
    obtain ⟨k, hk, h3, h4⟩ := hd.ok _ _ _ hx
    have h5 := h4 (x ++ [dotT d1]) (sameT_app rfl hk) (lessF_app rfl hk (by show ([46] : List UInt8) ∉ condFollow; decide))
    rw [ha] at h5
    rw [drop_app_lt hk] at h5
    injection h5 with h5; injection h5 with e1 e2
    subst e1
    cases hr : x.drop k with
    | nil => rw [hpa]; exact ⟨by rw [hx, h3, hr], hba⟩
    | cons hh x2 =>
      exfalso
      have hlen : x'.length = x.length := by simpa using (congrArg List.length hc).symm
      have h6 := h4 (x' ++ rpT d3 :: [dotT d4]) (sameT_app hc hk) (lessF_app hc hk (by show ([41] : List UInt8) ∉ condFollow; decide))
      have hf : condF fuelN (x' ++ rpT d3 :: [dotT d4]) = condF (fuelN - 1) (x' ++ rpT d3 :: [dotT d4]) := cond_fuel _ _ _ (by simp; omega) (by simp; omega)
      have hstop : ¬ (hh.text ≠ [110, 111, 116, 119, 105, 116, 104, 115, 116, 97, 110, 100, 105, 110, 103] ∧ hh.text ≠ [102, 114, 111, 109] ∧ hh.text ≠ [117, 110, 116, 105, 108] ∧ hh.text ≠ [97, 103, 97, 105, 110] ∧ hh.text ≠ [46]) := by
        intro hs
        have := bad_tail fuelN a hh (x2 ++ [dotT d1]) hs
        rw [e2, hr] at hta
        rw [List.cons_append, this] at hta
        cases hta
      have h2d : (x.drop k).map core = (x'.drop k).map core := by rw [List.map_drop, List.map_drop, hc]
      have h41 : ∃ h' y, x'.drop k = h' :: y ∧ h'.text ≠ [41] := by
        rw [hr] at h2d
        cases hq : x'.drop k with
        | nil => rw [hq] at h2d; simp at h2d
        | cons h' y =>
          rw [hq] at h2d
          simp only [List.map_cons, List.cons.injEq, core, Prod.mk.injEq] at h2d
          refine ⟨h', y, rfl, fun h4 => hstop ?_⟩
          rw [h2d.1.2.1, h4]
          decide
      obtain ⟨h', y, hq, h41⟩ := h41
      have hdr : (x' ++ rpT d3 :: [dotT d4]).drop k = h' :: (y ++ rpT d3 :: [dotT d4]) := by rw [drop_app_lt (by omega), hq, List.cons_append]
      have hm : mustF [[41]] (h' :: (y ++ rpT d3 :: [dotT d4])) = .error (5, h' :: (y ++ rpT d3 :: [dotT d4])) := by
        rcases takeF_cases [[41]] (h' :: (y ++ rpT d3 :: [dotT d4])) with ht | ⟨t, r, i, he, ht, hw', hi⟩
        · simp only [mustF, optF, ht, failR, failC]
        · exfalso
          cases he
          have : List.idxOf? h'.text [[41]] = none := by rw [List.idxOf?_eq_none_iff]; simpa using h41
          rw [this] at hi; cases hi
      have h7 : atomF (fuelN - 1 + 1) (lpT d2 :: (x' ++ rpT d3 :: [dotT d4])) = .error (5, h' :: (y ++ rpT d3 :: [dotT d4])) := by
        rw [atom_par, ← hf, h6, hdr]
        simp only [bindR, hm]
      have h8 := cond_err (n := fuelN - 1) h7
      rw [show fuelN - 1 + 1 = fuelN from rfl, hb] at h8
      cases h8
/- conditions in parentheses -/
theorem atom_of {x x' r : List Tok} {a : Tree} {d1 d2 : Nat} (h : CondOk x a) (hc : x.map core = x'.map core) (hl : x.length + r.length + 5 < fuelN) : atomF fuelN (lpT d1 :: (x' ++ rpT d2 :: r)) = .ok (a, r) := by
  have hlen : x'.length = x.length := by simpa using (congrArg List.length hc).symm
  obtain ⟨k, hk, h3, h4⟩ := (cond_det' fuelN).ok _ _ _ h.run
  have hkx : k = x.length := by
    have := congrArg List.length h3
    simp at this; omega
  have h6 := h4 (x' ++ rpT d2 :: r) (sameT_app hc hk) (lessF_app hc hk (by show ([41] : List UInt8) ∉ condFollow; decide))
  rw [drop_app_lt (by omega), List.drop_of_length_le (by omega), List.nil_append] at h6
  show atomF (fuelN - 1 + 1) _ = _
  rw [atom_par, cond_fuel (fuelN - 1) fuelN _ (by simp; omega) (by simp; omega), h6]
  rfl
theorem atom_not {n : Nat} {l : List Tok} (p : Nat) : atomF (n + 1) (⟨1, [110, 111, 116], 0, p⟩ :: l) = bindR (atomF n l) fun f r' => .ok (.mk 5 [] 0 0 [f], r') := rfl
/- NorthJoins in plain words. -/
theorem parseF_pr {l : List UInt8} {ts : List Tok} (h : lexF l = .ok ts) : parseF l = match pr ts with | .error (e, s) => .error (e, (posAt l.length s : Nat)) | .ok (p, _) => .ok p := by
  unfold parseF
  rw [h]
  rfl
theorem pr_nil {ts : List Tok} {p : Prov} {r : List Tok} (h : pr ts = .ok (p, r)) : r = [] := by
  rcases pr_cases ts with ⟨p', h1, h2⟩ | ⟨p', t', v', h1, h2⟩ | ⟨e, s, h1, h2⟩
  · rw [h2] at h; cases h; rfl
  · rw [h2] at h; cases h
  · rw [h2] at h; cases h
theorem parseF_ok {l : List UInt8} {p : Prov} (h : parseF l = .ok p) : ∃ ts, lexF l = .ok ts ∧ pr ts = .ok (p, []) := by
  cases hl : lexF l with
  | error e => unfold parseF at h; rw [hl] at h; cases h
  | ok ts =>
    rw [parseF_pr hl] at h
    refine ⟨ts, rfl, ?_⟩
    cases hp : pr ts with
    | error v => rw [hp] at h; cases h
    | ok v =>
      obtain ⟨q, r⟩ := v
      rw [hp] at h
      obtain rfl := pr_nil hp
      cases h; rfl
theorem parseF_mk {l : List UInt8} {ts : List Tok} {p : Prov} (h : lexF l = .ok ts) (hp : pr ts = .ok (p, [])) : parseF l = .ok p := by
  rw [parseF_pr h, hp]
theorem parseF_err {l : List UInt8} {ts : List Tok} {e : Nat} {s : List Tok} (h : lexF l = .ok ts) (hp : pr ts = .error (e, s)) : parseF l = .error (e, (posAt l.length s : Nat)) := by
  rw [parseF_pr h, hp]
def pureF (x : List UInt8) : Option Tree :=
  if 2000 < x.length then none
  else match parseF (ruleB x) with
    | .error _ => none
    | .ok p => match parseF (ruleB (parB x)) with
      | .error _ => none
      | .ok _ => some p.cond
/- what such a text comes to -/
theorem pureF_ok {x : List UInt8} {a : Tree} (h : pureF x = some a) : ∃ ts, (sc x 26) = (ts, none) ∧ CondOk ts a ∧ ts.length ≤ 2000 ∧ x.length ≤ 2000 := by
  unfold pureF at h
  split at h
  · cases h
  · rename_i hl
    split at h
    · cases h
    · rename_i p hp
      split at h
      · cases h
      · rename_i q hq
        injection h with h
        subst h
        obtain ⟨t1, ht1, hp1⟩ := parseF_ok hp
        obtain ⟨t2, ht2, hp2⟩ := parseF_ok hq
        have h1 := (lexF_ok ht1).1
        have h2 := (lexF_ok ht2).1
        rw [sc_rule] at h1 h2
        cases hx : (sc x 26).2 with
        | some e => rw [hx] at h1; cases h1
        | none =>
          rw [hx] at h1
          injection h1 with h1 _
          have hs := sc_shift x 26 1
          rw [hx] at hs
          rw [sc_par, show 26 + 1 = 27 from rfl] at h2
          rw [show (26 : Nat) + 1 = 27 from rfl] at hs
          rw [hs] at h2
          simp only [Option.map_none] at h2
          injection h2 with h2 _
          have hcount := sc_count x 26
          refine ⟨(sc x 26).1, Prod.ext rfl hx, ?_, by omega, by omega⟩
          subst h1 h2
          exact cond_pure (x' := (sc x 26).1.map (shiftT 1)) (q := q) (d4 := 26 + (parB x).length + 1) (d2 := 26) (d3 := 27 + x.length + 1) (by unfold fuelN; omega) (by rw [List.map_map]; rfl) hp1 (by simpa using hp2)
theorem sc_two (x b : List UInt8) (p : Nat) (hx : (sc x (p + 1)).2 = none) : sc (parB x ++ b) p = (lpT p :: ((sc x (p + 1)).1 ++ rpT (p + 1 + x.length + 1) :: (sc b (p + x.length + 3)).1), (sc b (p + x.length + 3)).2) := by
  have e : parB x ++ b = 40 :: (x ++ 10 :: (41 :: b)) := by simp [parB]
  rw [e, sc_sym _ p (by decide) (by decide) (by decide) (by decide) (by decide), sc_join x (41 :: b), hx]
  simp only []
  rw [sc_sym b _ (by decide) (by decide) (by decide) (by decide) (by decide)]
  rw [show p + 1 + x.length + 1 + 1 = p + x.length + 3 by omega]
  rfl
theorem sc_and (b : List UInt8) (p : Nat) : sc ([32, 97, 110, 100, 32] ++ b) p = (⟨1, [97, 110, 100], 0, p + 1⟩ :: (sc b (p + 5)).1, (sc b (p + 5)).2) := by
  show sc (32 :: ([97, 110, 100] ++ 32 :: b)) p = _
  rw [sc_blank _ _ (by decide), sc_sep [97, 110, 100] b 32 (by decide) (by decide)]
  have : sc [97, 110, 100] (p + 1) = ([⟨1, [97, 110, 100], 0, p + 1⟩], none) := rfl
  rw [this]
  rfl
theorem sc_or (b : List UInt8) (p : Nat) : sc ([32, 111, 114, 32] ++ b) p = (⟨1, [111, 114], 0, p + 1⟩ :: (sc b (p + 4)).1, (sc b (p + 4)).2) := by
  show sc (32 :: ([111, 114] ++ 32 :: b)) p = _
  rw [sc_blank _ _ (by decide), sc_sep [111, 114] b 32 (by decide) (by decide)]
  have : sc [111, 114] (p + 1) = ([⟨1, [111, 114], 0, p + 1⟩], none) := rfl
  rw [this]
  rfl
theorem sc_not (b : List UInt8) (p : Nat) : sc ([110, 111, 116, 32] ++ b) p = (⟨1, [110, 111, 116], 0, p⟩ :: (sc b (p + 4)).1, (sc b (p + 4)).2) := by
  show sc ([110, 111, 116] ++ 32 :: b) p = _
  rw [sc_sep [110, 111, 116] b 32 (by decide) (by decide)]
  have : sc [110, 111, 116] p = ([⟨1, [110, 111, 116], 0, p⟩], none) := rfl
  rw [this]
  rfl
theorem shift_none {x : List UInt8} {ts : List Tok} (h : sc x 26 = (ts, none)) (p : Nat) : ∃ k, ∃ ts', sc x p = (ts', none) ∧ ts.map core = ts'.map core ∧ k = 0 := by
  refine ⟨0, (sc x p).1, ?_, ?_, rfl⟩
  · have h1 := sc_shift x 0 26
    have h2 := sc_shift x 0 p
    rw [Nat.zero_add] at h1 h2
    rw [h] at h1
    injection h1 with h3 h4
    have h5 : (sc x 0).2 = none := by cases hq : (sc x 0).2 with | none => rfl | some v => rw [hq] at h4; cases h4
    rw [h2, h5]; rfl
  · have h1 := sc_shift x 0 26
    have h2 := sc_shift x 0 p
    rw [Nat.zero_add] at h1 h2
    rw [h] at h1
    injection h1 with h3 h4
    rw [h3, h2, List.map_map, List.map_map]
    rfl
/- what a condition makes that is read whole -/
theorem made_of {t : List UInt8} {ts : List Tok} {want : Tree} {x0 : Tok} {xs : List Tok} (hl : t.length ≤ 10000) (hs : sc t 26 = (x0 :: xs, none)) (hlen : xs.length ≤ 4900) (hx0 : x0.pos = 26)
    (hc : condF fuelN ((x0 :: xs) ++ [dotT (26 + t.length + 1)]) = .ok (want, [dotT (26 + t.length + 1)])) :
    parseF (ruleB t) = if boundC want = 0 then .ok ⟨[112], 4, 2, [113], 1, want, [], leafT 1, leafT 2, leafT 2⟩ else .error (2, 26) := by
  have h1 := sc_rule t
  rw [hs] at h1
  simp only [] at h1
  have hlex := lexF_mk h1 (by simp [preT]; omega) (by simp [ruleB, preW]; omega)
  have hpr : provF fuelN (preT ++ ((x0 :: xs) ++ [dotT (26 + t.length + 1)])) = if boundC want = 0 then .ok (⟨[112], 4, 2, [113], 1, want, [], leafT 1, leafT 2, leafT 2⟩, []) else .error (2, (x0 :: xs) ++ [dotT (26 + t.length + 1)]) := by
    rw [pre_run]
    unfold boundedF
    rw [hc]
    simp only [bindR, guardR]
    by_cases hb : boundC want = 0
    · rw [if_pos hb, if_pos hb]; exact dot_tail _ _ _
    · rw [if_neg hb, if_neg hb]
      have : boundC want = 2 := by unfold boundC at hb ⊢; split at hb <;> simp_all
      rw [this]
  by_cases hb : boundC want = 0
  · rw [if_pos hb] at hpr ⊢
    refine parseF_mk hlex ?_
    unfold pr endF
    rw [hpr]; rfl
  · rw [if_neg hb] at hpr ⊢
    have := parseF_err (e := 2) (s := (x0 :: xs) ++ [dotT (26 + t.length + 1)]) hlex (by unfold pr endF; rw [hpr]; rfl)
    rw [this]
    simp [posAt, hx0]
theorem joins_one {x : List UInt8} {a : Tree} (h : pureF x = some a) : ∃ p, parseF (ruleB (parB x)) = .ok p ∧ p.cond = a := by
  obtain ⟨ts, hs, hc, hl1, hl2⟩ := pureF_ok h
  obtain ⟨-, ts', hs', hm, -⟩ := shift_none hs 27
  have h0 : sc (parB x) 26 = (lpT 26 :: (ts' ++ [rpT (27 + x.length + 1)]), none) := by rw [sc_par, hs']
  have hlen : ts'.length = ts.length := by simpa using (congrArg List.length hm).symm
  have hat := atom_of (x' := ts') (r := [dotT (26 + (parB x).length + 1)]) (d1 := 26) (d2 := 27 + x.length + 1) hc hm (by simp [fuelN]; omega)
  have := made_of (ts := ts) (want := a) (by simp [parB]; omega) h0 (by simp; omega) rfl (by
    rw [show (lpT 26 :: (ts' ++ [rpT (27 + x.length + 1)])) ++ [dotT (26 + (parB x).length + 1)] = lpT 26 :: (ts' ++ rpT (27 + x.length + 1) :: [dotT (26 + (parB x).length + 1)]) by simp]
    exact cond_one (n := fuelN - 1) hat rfl rfl)
  rw [hc.bound] at this
  exact ⟨_, this, rfl⟩
theorem joins_and {x y : List UInt8} {a b : Tree} (h : pureF x = some a) (h' : pureF y = some b) : parseF (ruleB (parB x ++ ([32, 97, 110, 100, 32] ++ parB y))) = if boundC (.mk 6 [] 0 0 [a, b]) = 0 then .ok ⟨[112], 4, 2, [113], 1, .mk 6 [] 0 0 [a, b], [], leafT 1, leafT 2, leafT 2⟩ else .error (2, 26) := by
  obtain ⟨ts, hs, hc, hl1, hl2⟩ := pureF_ok h
  obtain ⟨us, hs2, hc2, hm1, hm2⟩ := pureF_ok h'
  obtain ⟨-, ts', hs', hm, -⟩ := shift_none hs 27
  obtain ⟨-, us', hu', hv, -⟩ := shift_none hs2 (26 + x.length + 3 + 5 + 1)
  have hlen : ts'.length = ts.length := by simpa using (congrArg List.length hm).symm
  have hlen2 : us'.length = us.length := by simpa using (congrArg List.length hv).symm
  have h0 := sc_two x ([32, 97, 110, 100, 32] ++ parB y) 26 (by rw [hs'])
  rw [sc_and, sc_par, hu', hs'] at h0
  simp only [] at h0
  refine made_of (ts := ts) (by simp [parB]; omega) h0 (by simp; omega) rfl ?_
  generalize hd : 26 + (parB x ++ ([32, 97, 110, 100, 32] ++ parB y)).length + 1 = d
  have e : (lpT 26 :: (ts' ++ rpT (26 + 1 + x.length + 1) :: ⟨1, [97, 110, 100], 0, 26 + x.length + 3 + 1⟩ :: lpT (26 + x.length + 3 + 5) :: (us' ++ [rpT (26 + x.length + 3 + 5 + 1 + y.length + 1)]))) ++ [dotT d]
      = lpT 26 :: (ts' ++ rpT (26 + 1 + x.length + 1) :: (⟨1, [97, 110, 100], 0, 26 + x.length + 3 + 1⟩ :: lpT (26 + x.length + 3 + 5) :: (us' ++ rpT (26 + x.length + 3 + 5 + 1 + y.length + 1) :: [dotT d]))) := by simp
  rw [e]
  exact cond_and (n := fuelN - 2) (i := 0) (r1 := lpT (26 + x.length + 3 + 5) :: (us' ++ rpT (26 + x.length + 3 + 5 + 1 + y.length + 1) :: [dotT d])) (atom_of hc hm (by simp [fuelN]; omega)) rfl (atom_of hc2 hv (by simp [fuelN]; omega)) rfl rfl
theorem joins_or {x y : List UInt8} {a b : Tree} (h : pureF x = some a) (h' : pureF y = some b) : parseF (ruleB (parB x ++ ([32, 111, 114, 32] ++ parB y))) = if boundC (.mk 7 [] 0 0 [a, b]) = 0 then .ok ⟨[112], 4, 2, [113], 1, .mk 7 [] 0 0 [a, b], [], leafT 1, leafT 2, leafT 2⟩ else .error (2, 26) := by
  obtain ⟨ts, hs, hc, hl1, hl2⟩ := pureF_ok h
  obtain ⟨us, hs2, hc2, hm1, hm2⟩ := pureF_ok h'
  obtain ⟨-, ts', hs', hm, -⟩ := shift_none hs 27
  obtain ⟨-, us', hu', hv, -⟩ := shift_none hs2 (26 + x.length + 3 + 4 + 1)
  have hlen : ts'.length = ts.length := by simpa using (congrArg List.length hm).symm
  have hlen2 : us'.length = us.length := by simpa using (congrArg List.length hv).symm
  have h0 := sc_two x ([32, 111, 114, 32] ++ parB y) 26 (by rw [hs'])
  rw [sc_or, sc_par, hu', hs'] at h0
  simp only [] at h0
  refine made_of (ts := ts) (by simp [parB]; omega) h0 (by simp; omega) rfl ?_
  generalize hd : 26 + (parB x ++ ([32, 111, 114, 32] ++ parB y)).length + 1 = d
  have e : (lpT 26 :: (ts' ++ rpT (26 + 1 + x.length + 1) :: ⟨1, [111, 114], 0, 26 + x.length + 3 + 1⟩ :: lpT (26 + x.length + 3 + 4) :: (us' ++ [rpT (26 + x.length + 3 + 4 + 1 + y.length + 1)]))) ++ [dotT d]
      = lpT 26 :: (ts' ++ rpT (26 + 1 + x.length + 1) :: (⟨1, [111, 114], 0, 26 + x.length + 3 + 1⟩ :: lpT (26 + x.length + 3 + 4) :: (us' ++ rpT (26 + x.length + 3 + 4 + 1 + y.length + 1) :: [dotT d]))) := by simp
  rw [e]
  exact cond_or (n := fuelN - 2) (i := 0) (r1 := lpT (26 + x.length + 3 + 4) :: (us' ++ rpT (26 + x.length + 3 + 4 + 1 + y.length + 1) :: [dotT d])) (atom_of hc hm (by simp [fuelN]; omega)) rfl rfl (atom_of hc2 hv (by simp [fuelN]; omega)) rfl rfl
theorem joins_not {x : List UInt8} {a : Tree} (h : pureF x = some a) : parseF (ruleB ([110, 111, 116, 32] ++ parB x)) = if boundC (.mk 5 [] 0 0 [a]) = 0 then .ok ⟨[112], 4, 2, [113], 1, .mk 5 [] 0 0 [a], [], leafT 1, leafT 2, leafT 2⟩ else .error (2, 26) := by
  obtain ⟨ts, hs, hc, hl1, hl2⟩ := pureF_ok h
  obtain ⟨-, ts', hs', hm, -⟩ := shift_none hs 31
  have hlen : ts'.length = ts.length := by simpa using (congrArg List.length hm).symm
  have h0 := sc_not (parB x) 26
  rw [sc_par, show 26 + 4 + 1 = 31 from rfl, hs'] at h0
  simp only [] at h0
  refine made_of (ts := ts) (by simp [parB]; omega) h0 (by simp; omega) rfl ?_
  generalize hd : 26 + ([110, 111, 116, 32] ++ parB x).length + 1 = d
  have e : (⟨1, [110, 111, 116], 0, 26⟩ :: lpT (26 + 4) :: (ts' ++ [rpT (31 + x.length + 1)])) ++ [dotT d] = ⟨1, [110, 111, 116], 0, 26⟩ :: lpT (26 + 4) :: (ts' ++ rpT (31 + x.length + 1) :: [dotT d]) := by simp
  rw [e]
  have hat := atom_of (r := [dotT d]) (d1 := 26 + 4) (d2 := 31 + x.length + 1) hc hm (by simp [fuelN]; omega)
  refine cond_one (n := fuelN - 1) (r := [dotT d]) ?_ rfl rfl
  rw [atom_not]
  rw [atom_fuel (fuelN - 1) fuelN _ (by simp [fuelN]; omega) (by simp [fuelN]; omega), hat]
  rfl
/- NorthAbsent in plain words: parts that are left out. -/
abbrev Core := Nat × List UInt8 × Nat
def tk (c : Core) : Tok := ⟨c.1, c.2.1, c.2.2, 0⟩
theorem core_tk (c : Core) : core (tk c) = c := rfl
theorem map_tk (l : List Core) : (l.map tk).map core = l := by
  rw [List.map_map]
  exact List.map_id l
def ansR {α : Type} (p : R α) : Nat × Option α := match p with | .ok (x, _) => (0, some x) | .error (e, _) => (e, none)
theorem ans_core {ts : List Tok} {cs : List Core} (h : ts.map core = cs) : ansR (pr ts) = ansR (pr (cs.map tk)) := by
  have hm : ts.map core = (cs.map tk).map core := by rw [map_tk, h]
  obtain ⟨h1, h2⟩ := pr_map hm
  cases hp : pr ts with
  | error v =>
    obtain ⟨e, s⟩ := v
    obtain ⟨j, _, _, h3⟩ := h2 e s hp
    rw [h3]; rfl
  | ok v =>
    obtain ⟨p, r⟩ := v
    obtain rfl := pr_nil hp
    rw [h1 p hp]
/- the words that end a part -/
def stopW : List (List UInt8) := [[105, 102], [110, 111, 116, 119, 105, 116, 104, 115, 116, 97, 110, 100, 105, 110, 103], [102, 114, 111, 109], [117, 110, 116, 105, 108], [97, 103, 97, 105, 110], [46]]
def StopHead (l : List Tok) : Prop := ∃ c r, l = tk c :: r ∧ (c = (1, [102, 114, 111, 109], 0) ∨ c = (1, [117, 110, 116, 105, 108], 0) ∨ c = (1, [97, 103, 97, 105, 110], 0) ∨ c = (3, [46], 0))
theorem stop_deaf {c : Core} (h : c = (1, [102, 114, 111, 109], 0) ∨ c = (1, [117, 110, 116, 105, 108], 0) ∨ c = (1, [97, 103, 97, 105, 110], 0) ∨ c = (3, [46], 0)) : deaf condWords (tk c) ∧ deaf startWords (tk c) ∧ (tk c).text ∉ condFollow ∧ (tk c).text ∉ startFollow := by
  have key : ∀ (A : List (List UInt8)) (k : Nat) (s : List UInt8), ¬ k = 2 → ¬ (k = 1 ∧ keyF s = false) → s ∉ A → deaf A (tk (k, s, 0)) := fun A k s h1 h2 h3 => ⟨h1, h2, fun h => h3 h.2⟩
  rcases h with rfl | rfl | rfl | rfl
  all_goals exact ⟨key _ _ _ (by decide) (by decide) (by decide), key _ _ _ (by decide) (by decide) (by decide), by show _ ∉ _; decide, by show _ ∉ _; decide⟩
/- a stage: a part, or its default -/
def stage (w : List UInt8) (P : List Tok → R Tree) (d : Tree) (K : Tree → List Tok → R Prov) (l : List Tok) : R Prov :=
  bindR (optF [w] l (fun _ r => boundedF P r) (fun r => .ok (d, r))) K
theorem take_not {w : List UInt8} {t : Tok} {r : List Tok} (h : t.text ≠ w) : takeF [w] (t :: r) = (none, t :: r) := by
  rcases takeF_cases [w] (t :: r) with ht | ⟨t', r', i, he, ht, hw', hi⟩
  · exact ht
  · exfalso
    cases he
    have : List.idxOf? t.text [w] = none := by rw [List.idxOf?_eq_none_iff]; simpa using h
    rw [this] at hi; cases hi
theorem takeF_yes (w : List UInt8) (r : List Tok) : takeF [w] (tk (1, w, 0) :: r) = (some 0, r) := by
  have h1 : List.idxOf? w [w] = some 0 := by
    rw [List.idxOf?_cons]; simp
  show (if isWord (tk (1, w, 0)) = true then (match List.idxOf? w [w] with | some i => (some i, r) | none => (none, tk (1, w, 0) :: r)) else (none, tk (1, w, 0) :: r)) = _
  rw [h1, if_pos (by rfl)]
theorem ans_bind_err {α β : Type} {e : Nat × List Tok} (Q : α → List Tok → R β) : ansR (bindR (.error e : R α) Q) = (e.1, none) := rfl
theorem stage_same {w : List UInt8} {P : List Tok → R Tree} {A F : List (List UInt8)} (hP : Det A F P) {d : Tree} {K : Tree → List Tok → R Prov} {rs rl : List Tok} {cs cl : Core} {xs xl : List Tok} (hs : rs = tk cs :: xs) (hl : rl = tk cl :: xl)
    (d1 : deaf A (tk cs)) (d2 : deaf A (tk cl)) (f1 : (tk cs).text ∉ F) (f2 : (tk cl).text ∉ F) (H : ∀ x, ansR (K x rs) = ansR (K x rl)) (B : ∀ x h l, h.text ∉ stopW → ansR (K x (h :: l)) = (5, none)) (W : List Core) (hW : ∀ c ∈ W, c.2.1 ∉ stopW) :
    ansR (stage w P d K (tk (1, w, 0) :: (W.map tk ++ rs))) = ansR (stage w P d K (tk (1, w, 0) :: (W.map tk ++ rl))) := by
  unfold stage
  simp only [optF, takeF_yes]
  unfold boundedF
  subst hs hl
  cases hp : P (W.map tk) with
  | error v =>
    obtain ⟨e, s⟩ := v
    obtain ⟨j, k, hjk, hk, h3, h0, h4⟩ := hP.err _ _ _ hp
    have e1 := h4 (W.map tk ++ tk cs :: xs) (sameT_app rfl hk) (less_app rfl hk d1)
    have e2 := h4 (W.map tk ++ tk cl :: xl) (sameT_app rfl hk) (less_app rfl hk d2)
    rw [e1, e2]
    have hr : recode e ((W.map tk ++ tk cs :: xs).drop j) = recode e ((W.map tk ++ tk cl :: xl).drop j) := by
      unfold recode
      split
      · rw [drop_app_lt (by omega), drop_app_lt (by omega)]
        cases hq : (W.map tk).drop j <;> rfl
      · rfl
    simp only [bindR, ansR, hr]
  | ok v =>
    obtain ⟨x, r⟩ := v
    obtain ⟨k, hk, h3, h4⟩ := hP.ok _ _ _ hp
    have e1 := h4 (W.map tk ++ tk cs :: xs) (sameT_app rfl hk) (lessF_app rfl hk f1)
    have e2 := h4 (W.map tk ++ tk cl :: xl) (sameT_app rfl hk) (lessF_app rfl hk f2)
    rw [e1, e2]
    simp only [bindR, guardR]
    by_cases hb : boundC x = 0
    · simp only [if_pos hb]
      rw [drop_app_lt hk, drop_app_lt hk]
      cases hq : (W.map tk).drop k with
      | nil => exact H x
      | cons h y =>
        have hm : h ∈ W.map tk := List.mem_of_mem_drop (by rw [hq]; simp)
        obtain ⟨c, hc, rfl⟩ := List.mem_map.1 hm
        rw [List.cons_append, List.cons_append, B x _ _ (hW c hc), B x _ _ (hW c hc)]
    · simp only [if_neg hb]; rfl
/- the stages behind 'act a: define b' -/
def K4 (n : Nat) (c : Tree) (x : List (List UInt8)) (b f : Tree) (a : Tree) (l : List Tok) : R Prov := bindR (mustF [[46]] l) fun _ r' => endF (.ok (⟨[97], 2, 1, [98], 0, c, x, b, f, a⟩, r'))
def K3 (n : Nat) (c : Tree) (x : List (List UInt8)) (b f : Tree) (l : List Tok) : R Prov := stage [97, 103, 97, 105, 110] (startF n) (leafT 2) (K4 n c x b f) l
def K2 (n : Nat) (c : Tree) (x : List (List UInt8)) (b : Tree) (l : List Tok) : R Prov := stage [117, 110, 116, 105, 108] (startF n) (leafT 2) (K3 n c x b) l
def K1 (n : Nat) (c : Tree) (l : List Tok) : R Prov := bindR (excF l) fun x r => stage [102, 114, 111, 109] (startF n) (leafT 1) (K2 n c x) r
def K0 (n : Nat) (l : List Tok) : R Prov := stage [105, 102] (condF n) (leafT 1) (K1 n) l
def actC : List Core := [(1, [97, 99, 116], 0), (1, [97], 0), (3, [58], 0), (1, [100, 101, 102, 105, 110, 101], 0), (1, [98], 0)]
theorem endF_bind {α β : Type} (p : R α) (f : α → List Tok → R β) : endF (bindR p f) = bindR p fun x r => endF (f x r) := by
  unfold endF; rw [bindR_assoc]
theorem act_run (y : List Tok) : pr (actC.map tk ++ y) = K0 fuelN y := by
  have h : bodyF fuelN (actC.map tk ++ y) = bindR (ifF fuelN y) fun c r => bindR (excF r) fun exc r6 =>
    bindR (whenF fuelN [102, 114, 111, 109] 1 r6) fun beg r7 => bindR (whenF fuelN [117, 110, 116, 105, 108] 2 r7) fun fin r8 => bindR (whenF fuelN [97, 103, 97, 105, 110] 2 r8) fun aga r9 =>
    .ok (⟨[97], 2, 1, [98], 0, c, exc, beg, fin, aga⟩, r9) := by rfl
  unfold pr provF
  rw [h]
  simp only [bindR_assoc, endF_bind]
  rfl
theorem not_in_stop {h : Tok} (hh : h.text ∉ stopW) : h.text ≠ [105, 102] ∧ h.text ≠ [110, 111, 116, 119, 105, 116, 104, 115, 116, 97, 110, 100, 105, 110, 103] ∧ h.text ≠ [102, 114, 111, 109] ∧ h.text ≠ [117, 110, 116, 105, 108] ∧ h.text ≠ [97, 103, 97, 105, 110] ∧ h.text ≠ [46] := by
  simpa [stopW] using hh
theorem B4 (n : Nat) (c : Tree) (x : List (List UInt8)) (b f : Tree) (a : Tree) (h : Tok) (l : List Tok) (hh : h.text ∉ stopW) : ansR (K4 n c x b f a (h :: l)) = (5, none) := by
  obtain ⟨-, -, -, -, -, h6⟩ := not_in_stop hh
  simp only [K4, mustF, optF, take_not h6, failR, bindR, ansR, failC]
theorem B3 (n : Nat) (c : Tree) (x : List (List UInt8)) (b f : Tree) (h : Tok) (l : List Tok) (hh : h.text ∉ stopW) : ansR (K3 n c x b f (h :: l)) = (5, none) := by
  obtain ⟨-, -, -, -, h5, -⟩ := not_in_stop hh
  simp only [K3, stage, optF, take_not h5, bindR]
  exact B4 n c x b f _ h l hh
theorem B2 (n : Nat) (c : Tree) (x : List (List UInt8)) (b : Tree) (h : Tok) (l : List Tok) (hh : h.text ∉ stopW) : ansR (K2 n c x b (h :: l)) = (5, none) := by
  obtain ⟨-, -, -, h4, -, -⟩ := not_in_stop hh
  simp only [K2, stage, optF, take_not h4, bindR]
  exact B3 n c x b _ h l hh
theorem B1 (n : Nat) (c : Tree) (h : Tok) (l : List Tok) (hh : h.text ∉ stopW) : ansR (K1 n c (h :: l)) = (5, none) := by
  obtain ⟨-, h2, h3, -, -, -⟩ := not_in_stop hh
  simp only [K1, excF, stage, optF, take_not h2, take_not h3, bindR]
  exact B2 n c _ _ h l hh
/- a part as tokens: nothing, its default, or what it has -/
def partC (w o : List UInt8) (t : Option (List Core)) (out : Bool) : List Core := match t with | some W => (1, w, 0) :: W | none => if out then [] else [(1, w, 0), (1, o, 0)]
def freeC (t : Option (List Core)) : Prop := ∀ W, t = some W → ∀ c ∈ W, c.2.1 ∉ stopW
theorem stage_part {w o : List UInt8} {P : List Tok → R Tree} {A F : List (List UInt8)} (hP : Det A F P) {d : Tree} {K : Tree → List Tok → R Prov} {rs rl : List Tok} (hs : StopHead rs) (hl : StopHead rl)
    (hd : ∀ c : Core, (c = (1, [102, 114, 111, 109], 0) ∨ c = (1, [117, 110, 116, 105, 108], 0) ∨ c = (1, [97, 103, 97, 105, 110], 0) ∨ c = (3, [46], 0)) → deaf A (tk c) ∧ (tk c).text ∉ F) (hno : ∀ t r, rs = t :: r → t.text ≠ w)
    (ho : ∀ c r, deaf A (tk c) → (tk c).text ∉ F → boundedF P (tk (1, o, 0) :: tk c :: r) = .ok (d, tk c :: r))
    (H : ∀ x, ansR (K x rs) = ansR (K x rl)) (B : ∀ x h l, h.text ∉ stopW → ansR (K x (h :: l)) = (5, none)) (t : Option (List Core)) (ht : freeC t) :
    ansR (stage w P d K ((partC w o t true).map tk ++ rs)) = ansR (stage w P d K ((partC w o t false).map tk ++ rl)) := by
  obtain ⟨cs, xs, rfl, h1⟩ := hs
  obtain ⟨cl, xl, rfl, h2⟩ := hl
  cases t with
  | none =>
    have e1 : stage w P d K ((partC w o none true).map tk ++ tk cs :: xs) = K d (tk cs :: xs) := by
      show stage w P d K (tk cs :: xs) = _
      unfold stage
      simp only [optF, take_not (hno _ _ rfl), bindR]
    have e2 : stage w P d K ((partC w o none false).map tk ++ tk cl :: xl) = K d (tk cl :: xl) := by
      show stage w P d K (tk (1, w, 0) :: tk (1, o, 0) :: tk cl :: xl) = _
      unfold stage
      simp only [optF, takeF_yes]
      rw [ho cl xl (hd cl h2).1 (hd cl h2).2]
      rfl
    rw [e1, e2]; exact H d
  | some W =>
    exact stage_same hP rfl rfl (hd cs h1).1 (hd cl h2).1 (hd cs h1).2 (hd cl h2).2 H B W (ht W rfl)
theorem start_det' (n : Nat) : Det startWords startFollow (startF n) := start_det start_sub (fun _ h => h) (fun _ h => h) n
theorem part_head (w o : List UInt8) (t : Option (List Core)) (out : Bool) {l : List Tok} (hl : StopHead l) (hw : w = [102, 114, 111, 109] ∨ w = [117, 110, 116, 105, 108] ∨ w = [97, 103, 97, 105, 110]) : StopHead ((partC w o t out).map tk ++ l) := by
  cases t with
  | some W => exact ⟨(1, w, 0), W.map tk ++ l, rfl, by rcases hw with rfl | rfl | rfl <;> simp⟩
  | none =>
    cases out with
    | true => exact hl
    | false => exact ⟨(1, w, 0), tk (1, o, 0) :: l, rfl, by rcases hw with rfl | rfl | rfl <;> simp⟩
/- the default of a part is read as it -/
theorem def_det {n : Nat} {P : List Tok → R Tree} {A F : List (List UInt8)} (hP : Det A F P) {o : List UInt8} {d : Tree} (h : P [tk (1, o, 0)] = .ok (d, [])) (hb : boundC d = 0) (c : Core) (r : List Tok) (hd : deaf A (tk c)) (hf : (tk c).text ∉ F) :
    boundedF P (tk (1, o, 0) :: tk c :: r) = .ok (d, tk c :: r) := by
  obtain ⟨k, hk, h3, h4⟩ := hP.ok _ _ _ h
  have hk1 : k = 1 := by
    have := congrArg List.length h3
    simp at this hk; omega
  subst hk1
  have := h4 (tk (1, o, 0) :: tk c :: r) ⟨by simp, by simp, rfl⟩ (.inr (.inr ⟨tk c, r, rfl, fun h => hf h.2⟩))
  unfold boundedF
  rw [this]
  simp only [bindR, guardR, hb, if_true]
  rfl
def dotC : Core := (3, [46], 0)
theorem dot_stop : StopHead [tk dotC] := ⟨dotC, [], rfl, .inr (.inr (.inr rfl))⟩
theorem stop_ne {l : List Tok} (h : StopHead l) (w : List UInt8) (hw : w ≠ [102, 114, 111, 109] ∧ w ≠ [117, 110, 116, 105, 108] ∧ w ≠ [97, 103, 97, 105, 110] ∧ w ≠ [46]) : ∀ t r, l = t :: r → t.text ≠ w := by
  obtain ⟨c, r0, rfl, hc⟩ := h
  intro t r he
  cases he
  rcases hc with rfl | rfl | rfl | rfl
  · exact fun h => hw.1 h.symm
  · exact fun h => hw.2.1 h.symm
  · exact fun h => hw.2.2.1 h.symm
  · exact fun h => hw.2.2.2 h.symm
theorem absent_tok (t1 t2 t3 t4 : Option (List Core)) (f1 : freeC t1) (f2 : freeC t2) (f3 : freeC t3) (f4 : freeC t4) :
    ansR (pr ((actC ++ (partC [105, 102] [116, 114, 117, 101] t1 true ++ (partC [102, 114, 111, 109] [97, 108, 119, 97, 121, 115] t2 true ++ (partC [117, 110, 116, 105, 108] [110, 101, 118, 101, 114] t3 true ++ (partC [97, 103, 97, 105, 110] [110, 101, 118, 101, 114] t4 true ++ [dotC]))))).map tk)) =
    ansR (pr ((actC ++ (partC [105, 102] [116, 114, 117, 101] t1 false ++ (partC [102, 114, 111, 109] [97, 108, 119, 97, 121, 115] t2 false ++ (partC [117, 110, 116, 105, 108] [110, 101, 118, 101, 114] t3 false ++ (partC [97, 103, 97, 105, 110] [110, 101, 118, 101, 114] t4 false ++ [dotC]))))).map tk)) := by
  simp only [List.map_append, act_run]
  have hS := fun (c : Core) hc => (⟨(stop_deaf (c := c) hc).2.1, (stop_deaf (c := c) hc).2.2.2⟩ : deaf startWords (tk c) ∧ (tk c).text ∉ startFollow)
  have hC := fun (c : Core) hc => (⟨(stop_deaf (c := c) hc).1, (stop_deaf (c := c) hc).2.2.1⟩ : deaf condWords (tk c) ∧ (tk c).text ∉ condFollow)
  have hnever := def_det (n := fuelN) (start_det' fuelN) (o := [110, 101, 118, 101, 114]) (d := leafT 2) rfl (by decide)
  have halways := def_det (n := fuelN) (start_det' fuelN) (o := [97, 108, 119, 97, 121, 115]) (d := leafT 1) rfl (by decide)
  have htrue := def_det (n := fuelN) (cond_det' fuelN) (o := [116, 114, 117, 101]) (d := leafT 1) rfl (by decide)
  have s4 : ∀ (o : Bool), StopHead ((partC [97, 103, 97, 105, 110] [110, 101, 118, 101, 114] t4 o).map tk ++ [dotC].map tk) := fun o => part_head _ _ t4 o dot_stop (by simp)
  have s3 : ∀ (o : Bool), StopHead ((partC [117, 110, 116, 105, 108] [110, 101, 118, 101, 114] t3 o).map tk ++ ((partC [97, 103, 97, 105, 110] [110, 101, 118, 101, 114] t4 o).map tk ++ [dotC].map tk)) := fun o => part_head _ _ t3 o (s4 o) (by simp)
  have s2 : ∀ (o : Bool), StopHead ((partC [102, 114, 111, 109] [97, 108, 119, 97, 121, 115] t2 o).map tk ++ ((partC [117, 110, 116, 105, 108] [110, 101, 118, 101, 114] t3 o).map tk ++ ((partC [97, 103, 97, 105, 110] [110, 101, 118, 101, 114] t4 o).map tk ++ [dotC].map tk))) := fun o => part_head _ _ t2 o (s3 o) (by simp)
  have h4 : ∀ c x b f, ansR (K3 fuelN c x b f ((partC [97, 103, 97, 105, 110] [110, 101, 118, 101, 114] t4 true).map tk ++ [dotC].map tk)) = ansR (K3 fuelN c x b f ((partC [97, 103, 97, 105, 110] [110, 101, 118, 101, 114] t4 false).map tk ++ [dotC].map tk)) := fun c x b f =>
    stage_part (start_det' fuelN) dot_stop dot_stop hS (fun t r he => by cases he; decide) hnever (fun _ => rfl) (fun a h l => B4 _ _ _ _ _ a h l) t4 f4
  have nhead4 : ∀ t r, (partC [97, 103, 97, 105, 110] [110, 101, 118, 101, 114] t4 true).map tk ++ [dotC].map tk = t :: r → t.text ≠ [117, 110, 116, 105, 108] := by
    intro t r he
    cases t4 with
    | none => cases he; decide
    | some W => cases he; decide
  have h3 : ∀ c x b, ansR (K2 fuelN c x b ((partC [117, 110, 116, 105, 108] [110, 101, 118, 101, 114] t3 true).map tk ++ ((partC [97, 103, 97, 105, 110] [110, 101, 118, 101, 114] t4 true).map tk ++ [dotC].map tk))) = ansR (K2 fuelN c x b ((partC [117, 110, 116, 105, 108] [110, 101, 118, 101, 114] t3 false).map tk ++ ((partC [97, 103, 97, 105, 110] [110, 101, 118, 101, 114] t4 false).map tk ++ [dotC].map tk))) := fun c x b =>
    stage_part (start_det' fuelN) (s4 true) (s4 false) hS nhead4 hnever (fun f => h4 c x b f) (fun a h l => B3 _ _ _ _ a h l) t3 f3
  have nhead3 : ∀ t r, (partC [117, 110, 116, 105, 108] [110, 101, 118, 101, 114] t3 true).map tk ++ ((partC [97, 103, 97, 105, 110] [110, 101, 118, 101, 114] t4 true).map tk ++ [dotC].map tk) = t :: r → t.text ≠ [102, 114, 111, 109] := by
    intro t r he
    cases t3 with
    | some W => cases he; decide
    | none =>
      cases t4 with
      | none => cases he; decide
      | some W => cases he; decide
  have h2 : ∀ c x, ansR (stage [102, 114, 111, 109] (startF fuelN) (leafT 1) (K2 fuelN c x) ((partC [102, 114, 111, 109] [97, 108, 119, 97, 121, 115] t2 true).map tk ++ ((partC [117, 110, 116, 105, 108] [110, 101, 118, 101, 114] t3 true).map tk ++ ((partC [97, 103, 97, 105, 110] [110, 101, 118, 101, 114] t4 true).map tk ++ [dotC].map tk)))) = ansR (stage [102, 114, 111, 109] (startF fuelN) (leafT 1) (K2 fuelN c x) ((partC [102, 114, 111, 109] [97, 108, 119, 97, 121, 115] t2 false).map tk ++ ((partC [117, 110, 116, 105, 108] [110, 101, 118, 101, 114] t3 false).map tk ++ ((partC [97, 103, 97, 105, 110] [110, 101, 118, 101, 114] t4 false).map tk ++ [dotC].map tk)))) := fun c x =>
    stage_part (start_det' fuelN) (s3 true) (s3 false) hS nhead3 halways (fun b => h3 c x b) (fun a h l => B2 _ _ _ a h l) t2 f2
  have hexc : ∀ {l : List Tok}, StopHead l → excF l = .ok ([], l) := by
    intro l hl
    obtain ⟨c, r, rfl, hc⟩ := id hl
    have := stop_ne hl [110, 111, 116, 119, 105, 116, 104, 115, 116, 97, 110, 100, 105, 110, 103] (by decide) _ _ rfl
    simp only [excF, optF, take_not this]
  have h1 : ∀ c, ansR (K1 fuelN c ((partC [102, 114, 111, 109] [97, 108, 119, 97, 121, 115] t2 true).map tk ++ ((partC [117, 110, 116, 105, 108] [110, 101, 118, 101, 114] t3 true).map tk ++ ((partC [97, 103, 97, 105, 110] [110, 101, 118, 101, 114] t4 true).map tk ++ [dotC].map tk)))) = ansR (K1 fuelN c ((partC [102, 114, 111, 109] [97, 108, 119, 97, 121, 115] t2 false).map tk ++ ((partC [117, 110, 116, 105, 108] [110, 101, 118, 101, 114] t3 false).map tk ++ ((partC [97, 103, 97, 105, 110] [110, 101, 118, 101, 114] t4 false).map tk ++ [dotC].map tk)))) := fun c => by
    unfold K1
    rw [hexc (s2 true), hexc (s2 false)]
    exact h2 c []
  exact stage_part (cond_det' fuelN) (s2 true) (s2 false) hC (stop_ne (s2 true) [105, 102] (by decide)) htrue h1 (fun a h l => B1 _ a h l) t1 f1
/- NorthAbsent, from texts. -/
def scC (l : List UInt8) : Option (List Core) := match (sc l 0).2 with | none => some ((sc l 0).1.map core) | some _ => none
theorem scC_at (l : List UInt8) (p : Nat) : (match (sc l p).2 with | none => some ((sc l p).1.map core) | some _ => none) = scC l := by
  have h := sc_shift l 0 p
  rw [Nat.zero_add] at h
  rw [h]
  unfold scC
  cases (sc l 0).2 with
  | some e => rfl
  | none => simp only [Option.map_none, List.map_map]; rfl
theorem scC_blank (c : UInt8) (b : List UInt8) (h : blankB c = true) : scC (c :: b) = scC b := by
  rw [← scC_at b 1]
  unfold scC
  rw [sc_blank _ _ h]
theorem scC_join (a b : List UInt8) : scC (a ++ 10 :: b) = (scC a).bind fun u => (scC b).map (u ++ ·) := by
  rw [← scC_at b (0 + a.length + 1)]
  unfold scC
  rw [sc_join]
  cases (sc a 0).2 with
  | some e => rfl
  | none =>
    simp only [Option.bind_some]
    cases (sc b (0 + a.length + 1)).2 with
    | some e => rfl
    | none => simp
/- before anything that is no part of a word -/
theorem sc_app (a b : List UInt8) (x : UInt8) (hw : wordB x = false) (h61 : x ≠ 61) (ha : ∀ c ∈ a, c ≠ 35) (p : Nat) : sc (a ++ x :: b) p =
    match (sc a p).2 with
    | some e => ((sc a p).1, some e)
    | none => ((sc a p).1 ++ (sc (x :: b) (p + a.length)).1, (sc (x :: b) (p + a.length)).2) := by
  revert ha
  refine sc_ind (M := fun a p => (∀ c ∈ a, c ≠ 35) → sc (a ++ x :: b) p =
    match (sc a p).2 with
    | some e => ((sc a p).1, some e)
    | none => ((sc a p).1 ++ (sc (x :: b) (p + a.length)).1, (sc (x :: b) (p + a.length)).2)) ?_ ?_ ?_ ?_ ?_ a.length a p (Nat.le_refl _)
  · intro p _
    simp [sc_nil]
  · intro c r p h ih ha
    rw [List.cons_append, sc_blank _ _ h, sc_blank _ _ h, ih (fun c hc => ha c (by simp [hc]))]
    rw [show p + 1 + r.length = p + (c :: r).length by simp; omega]
  · intro r p ih ha
    exact absurd rfl (ha 35 (by simp))
  · intro c r p e h1 h2 h3 ha
    rw [List.cons_append, sc_err _ h1 h2 h3, sc_err _ h1 h2 (by rw [lexOne_sep r b hw h61]; exact h3)]
  · intro c r p j n v h1 h2 h3 ih ha
    have hn := lexOne_len h3
    rw [List.cons_append, sc_tok _ h1 h2 h3, sc_tok _ h1 h2 (by rw [lexOne_sep r b hw h61]; exact h3), sep_drop _ _ _ _ (by omega), ih (fun c hc => ha c (by simp [List.mem_of_mem_drop hc]))]
    rw [show p + n + (r.drop (n - 1)).length = p + (c :: r).length by simp; omega]
    have : (c :: (r ++ x :: b)).take n = (c :: r).take n := by
      rw [← List.cons_append, List.take_append_of_le_length (by simp; omega)]
    rw [this]
    cases h : (sc (r.drop (n - 1)) (p + n)).2 with
    | none => simp
    | some e => simp
theorem scC_app (a b : List UInt8) (x : UInt8) (hw : wordB x = false) (h61 : x ≠ 61) (ha : ∀ c ∈ a, c ≠ 35) : scC (a ++ x :: b) = (scC a).bind fun u => (scC (x :: b)).map (u ++ ·) := by
  rw [← scC_at (x :: b) (0 + a.length)]
  unfold scC
  rw [sc_app a b x hw h61 ha]
  cases (sc a 0).2 with
  | some e => rfl
  | none =>
    simp only [Option.bind_some]
    cases (sc (x :: b) (0 + a.length)).2 with
    | some e => rfl
    | none => simp
def partB (w o text : List UInt8) (out : Bool) : List UInt8 := if text ≠ [] then 32 :: (w ++ 32 :: (text ++ [10])) else if out then [] else 32 :: (w ++ 32 :: o)
/- what stands behind a part begins so -/
def SepB (s : List UInt8) : Prop := ∃ x r, s = x :: r ∧ (x = 32 ∨ x = 46)
theorem SepB.part {s : List UInt8} (h : SepB s) (w o text : List UInt8) (out : Bool) : SepB (partB w o text out ++ s) := by
  unfold partB
  split
  · exact ⟨32, _, rfl, .inl rfl⟩
  · split
    · exact h
    · exact ⟨32, _, rfl, .inl rfl⟩
def TextOk (text : List UInt8) (t : Option (List Core)) : Prop := (text = [] ∧ t = none) ∨ (text ≠ [] ∧ ∃ W, t = some W ∧ scC text = some W)
structure WordOk (w : List UInt8) : Prop where
  lex : scC w = some [(1, w, 0)]
  no : ∀ c ∈ w, c ≠ 35
theorem part_sc {w o : List UInt8} (hw : WordOk w) (ho : WordOk o) {text : List UInt8} {t : Option (List Core)} (ht : TextOk text t) (out : Bool) {s : List UInt8} (hs : SepB s) : scC (partB w o text out ++ s) = (scC s).map (partC w o t out ++ ·) := by
  rcases ht with ⟨rfl, rfl⟩ | ⟨hne, W, rfl, hW⟩
  · cases out with
    | true =>
      show scC s = (scC s).map ([] ++ ·)
      simp
    | false =>
      obtain ⟨x, r, rfl, hx⟩ := hs
      have hwx : wordB x = false := by rcases hx with rfl | rfl <;> decide
      have h61 : x ≠ 61 := by rcases hx with rfl | rfl <;> decide
      show scC (32 :: (w ++ 32 :: o) ++ x :: r) = _
      rw [List.cons_append, List.append_assoc, List.cons_append, scC_blank _ _ (by decide), scC_app w _ 32 (by decide) (by decide) hw.no, hw.lex, scC_blank _ _ (by decide), scC_app o r x hwx h61 ho.no, ho.lex]
      cases scC (x :: r) <;> rfl
  · have e : partB w o text out ++ s = 32 :: (w ++ 32 :: (text ++ 10 :: s)) := by
      unfold partB
      rw [if_pos hne]
      simp
    rw [e, scC_blank _ _ (by decide), scC_app w _ 32 (by decide) (by decide) hw.no, hw.lex, scC_blank _ _ (by decide), scC_join, hW]
    cases scC s <;> rfl
theorem scC_sc {l : List UInt8} {cs : List Core} (h : scC l = some cs) : ∃ ts, sc l 0 = (ts, none) ∧ ts.map core = cs := by
  unfold scC at h
  cases hq : (sc l 0).2 with
  | some e => rw [hq] at h; cases h
  | none => rw [hq] at h; injection h with h; exact ⟨_, Prod.ext rfl hq, h⟩
/- a free text -/
def freeF (text : List UInt8) : Bool := decide (text.length ≤ 1500) && match lexF text with | .ok ts => ts.all (fun t => !stopW.contains t.text) | .error _ => false
theorem freeF_ok {text : List UInt8} (h : freeF text = true) : text.length ≤ 1500 ∧ ∃ t, TextOk text t ∧ freeC t ∧ ∀ W, t = some W → W.length ≤ 1500 := by
  unfold freeF at h
  simp only [Bool.and_eq_true, decide_eq_true_eq] at h
  obtain ⟨hl, h⟩ := h
  refine ⟨hl, ?_⟩
  cases hx : lexF text with
  | error e => rw [hx] at h; cases h
  | ok ts =>
    rw [hx] at h
    by_cases hne : text = []
    · exact ⟨none, .inl ⟨hne, rfl⟩, fun W hW => (by cases hW), fun W hW => (by cases hW)⟩
    · have hs := (lexF_ok hx).1
      refine ⟨some (ts.map core), .inr ⟨hne, _, rfl, by unfold scC; rw [hs]⟩, fun W hW => ?_, fun W hW => ?_⟩
      · injection hW with hW
        subst hW
        intro c hc
        obtain ⟨t, ht, rfl⟩ := List.mem_map.1 hc
        have := List.all_eq_true.1 h t ht
        simpa [core] using this
      · injection hW with hW
        subst hW
        have := sc_count text 0
        rw [hs] at this
        simp at this ⊢; omega
def shortB (w1 w2 w3 w4 : List UInt8) (out : Bool) : List UInt8 := [97, 99, 116, 32, 97, 58, 32, 100, 101, 102, 105, 110, 101, 32, 98] ++ (partB [105, 102] [116, 114, 117, 101] w1 out ++ (partB [102, 114, 111, 109] [97, 108, 119, 97, 121, 115] w2 out ++ (partB [117, 110, 116, 105, 108] [110, 101, 118, 101, 114] w3 out ++ (partB [97, 103, 97, 105, 110] [110, 101, 118, 101, 114] w4 out ++ [46]))))
def ansF (l : List UInt8) : Nat × Option Prov := match parseF l with | .ok p => (0, some p) | .error (e, _) => (e, none)
theorem ansF_pr {l : List UInt8} {ts : List Tok} (h : lexF l = .ok ts) : ansF l = ansR (pr ts) := by
  unfold ansF
  rw [parseF_pr h]
  cases pr ts with
  | error v => rfl
  | ok v => rfl
def actsC (t1 t2 t3 t4 : Option (List Core)) (out : Bool) : List Core := actC ++ (partC [105, 102] [116, 114, 117, 101] t1 out ++ (partC [102, 114, 111, 109] [97, 108, 119, 97, 121, 115] t2 out ++ (partC [117, 110, 116, 105, 108] [110, 101, 118, 101, 114] t3 out ++ (partC [97, 103, 97, 105, 110] [110, 101, 118, 101, 114] t4 out ++ [dotC]))))
theorem scC_word (w : List UInt8) (h : scC w = some [(1, w, 0)]) (hn : ∀ c ∈ w, c ≠ 35) : WordOk w := ⟨h, hn⟩
theorem short_sc {w1 w2 w3 w4 : List UInt8} {t1 t2 t3 t4 : Option (List Core)} (h1 : TextOk w1 t1) (h2 : TextOk w2 t2) (h3 : TextOk w3 t3) (h4 : TextOk w4 t4) (out : Bool) : scC (shortB w1 w2 w3 w4 out) = some (actsC t1 t2 t3 t4 out) := by
  have s0 : SepB [46] := ⟨46, [], rfl, .inr rfl⟩
  have s4 := s0.part [97, 103, 97, 105, 110] [110, 101, 118, 101, 114] w4 out
  have s3 := s4.part [117, 110, 116, 105, 108] [110, 101, 118, 101, 114] w3 out
  have s2 := s3.part [102, 114, 111, 109] [97, 108, 119, 97, 121, 115] w2 out
  have s1 := s2.part [105, 102] [116, 114, 117, 101] w1 out
  have wif : WordOk [105, 102] := ⟨rfl, by decide⟩
  have wtrue : WordOk [116, 114, 117, 101] := ⟨rfl, by decide⟩
  have wfrom : WordOk [102, 114, 111, 109] := ⟨rfl, by decide⟩
  have walways : WordOk [97, 108, 119, 97, 121, 115] := ⟨rfl, by decide⟩
  have wuntil : WordOk [117, 110, 116, 105, 108] := ⟨rfl, by decide⟩
  have wnever : WordOk [110, 101, 118, 101, 114] := ⟨rfl, by decide⟩
  have wagain : WordOk [97, 103, 97, 105, 110] := ⟨rfl, by decide⟩
  have e4 := part_sc wagain wnever h4 out s0
  have e3 := part_sc wuntil wnever h3 out s4
  have e2 := part_sc wfrom walways h2 out s3
  have e1 := part_sc wif wtrue h1 out s2
  rw [e4] at e3
  rw [e3] at e2
  rw [e2] at e1
  unfold shortB actsC
  obtain ⟨x, r, hx, hx2⟩ := s1
  rw [hx] at e1 ⊢
  rw [scC_app [97, 99, 116, 32, 97, 58, 32, 100, 101, 102, 105, 110, 101, 32, 98] r x (by rcases hx2 with rfl | rfl <;> decide) (by rcases hx2 with rfl | rfl <;> decide) (by decide), e1]
  have e5 : scC [46] = some [dotC] := rfl
  have e6 : scC [97, 99, 116, 32, 97, 58, 32, 100, 101, 102, 105, 110, 101, 32, 98] = some actC := rfl
  rw [e5, e6]
  rfl
theorem absent_plain {w1 w2 w3 w4 : List UInt8} (h1 : freeF w1 = true) (h2 : freeF w2 = true) (h3 : freeF w3 = true) (h4 : freeF w4 = true) : ansF (shortB w1 w2 w3 w4 true) = ansF (shortB w1 w2 w3 w4 false) := by
  obtain ⟨l1, t1, x1, f1, m1⟩ := freeF_ok h1
  obtain ⟨l2, t2, x2, f2, m2⟩ := freeF_ok h2
  obtain ⟨l3, t3, x3, f3, m3⟩ := freeF_ok h3
  obtain ⟨l4, t4, x4, f4, m4⟩ := freeF_ok h4
  by_cases hall : w1 ≠ [] ∧ w2 ≠ [] ∧ w3 ≠ [] ∧ w4 ≠ []
  · obtain ⟨a, b, c, d⟩ := hall
    have : shortB w1 w2 w3 w4 true = shortB w1 w2 w3 w4 false := by
      unfold shortB partB
      rw [if_pos a, if_pos b, if_pos c, if_pos d, if_pos a, if_pos b, if_pos c, if_pos d]
    rw [this]
  · have hcnt : ∀ out, (actsC t1 t2 t3 t4 out).length ≤ 5000 := by
      have key : ∀ (w o : List UInt8) (t : Option (List Core)) (out : Bool), (∀ W, t = some W → W.length ≤ 1500) → (partC w o t out).length ≤ (match t with | some _ => 1501 | none => 2) := by
        intro w o t out hm
        cases t with
        | some W => have := hm W rfl; simp [partC]; omega
        | none => cases out <;> simp [partC]
      intro out
      have a1 := key [105, 102] [116, 114, 117, 101] t1 out m1
      have a2 := key [102, 114, 111, 109] [97, 108, 119, 97, 121, 115] t2 out m2
      have a3 := key [117, 110, 116, 105, 108] [110, 101, 118, 101, 114] t3 out m3
      have a4 := key [97, 103, 97, 105, 110] [110, 101, 118, 101, 114] t4 out m4
      have hsome : t1 = none ∨ t2 = none ∨ t3 = none ∨ t4 = none := by
        rcases x1 with ⟨_, h⟩ | ⟨h, _⟩
        · exact .inl h
        · rcases x2 with ⟨_, h'⟩ | ⟨h', _⟩
          · exact .inr (.inl h')
          · rcases x3 with ⟨_, h3'⟩ | ⟨h3', _⟩
            · exact .inr (.inr (.inl h3'))
            · rcases x4 with ⟨_, h4'⟩ | ⟨h4', _⟩
              · exact .inr (.inr (.inr h4'))
              · exact absurd ⟨h, h', h3', h4'⟩ hall
      have hb : ∀ (t : Option (List Core)), (match t with | some _ => 1501 | none => 2 : Nat) ≤ 1501 := by intro t; cases t <;> simp
      have b1 := hb t1
      have b2 := hb t2
      have b3 := hb t3
      have b4 := hb t4
      simp only [actsC, List.length_append, actC, List.length_cons, List.length_nil]
      rcases hsome with rfl | rfl | rfl | rfl
      all_goals simp only [] at *; omega
    have hlen : ∀ out, (shortB w1 w2 w3 w4 out).length ≤ 20000 := by
      intro out
      have key : ∀ (w o t : List UInt8), t.length ≤ 1500 → w.length ≤ 10 → o.length ≤ 10 → (partB w o t out).length ≤ 1550 := by
        intro w o t h1 h2 h3
        unfold partB
        split
        · simp; omega
        · split
          · simp
          · simp; omega
      have a1 := key [105, 102] [116, 114, 117, 101] w1 l1 (by decide) (by decide)
      have a2 := key [102, 114, 111, 109] [97, 108, 119, 97, 121, 115] w2 l2 (by decide) (by decide)
      have a3 := key [117, 110, 116, 105, 108] [110, 101, 118, 101, 114] w3 l3 (by decide) (by decide)
      have a4 := key [97, 103, 97, 105, 110] [110, 101, 118, 101, 114] w4 l4 (by decide) (by decide)
      simp only [shortB, List.length_append, List.length_cons, List.length_nil]
      omega
    have hlex : ∀ out, ansF (shortB w1 w2 w3 w4 out) = ansR (pr ((actsC t1 t2 t3 t4 out).map tk)) := by
      intro out
      obtain ⟨ts, hts, hc⟩ := scC_sc (short_sc x1 x2 x3 x4 out)
      have hl : ts.length = (actsC t1 t2 t3 t4 out).length := by rw [← hc]; simp
      rw [ansF_pr (lexF_mk hts (by rw [hl]; exact hcnt out) (hlen out)), ans_core hc]
    rw [hlex true, hlex false]
    exact absent_tok t1 t2 t3 t4 f1 f2 f3 f4
end Go.Proofs.YtbicmjmcdnkjhaaGreatDoor
