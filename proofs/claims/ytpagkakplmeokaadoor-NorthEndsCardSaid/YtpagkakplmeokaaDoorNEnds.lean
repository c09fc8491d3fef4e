/- The law of ends: the plain part, the reference's gaps. -/
import Derived.Test.YtpagkakplmeokaaDoorNGaps
set_option linter.unusedVariables false
set_option linter.unusedSimpArgs false
namespace Go.Proofs.YtpagkakplmeokaaDoor
open Go.RowKit
theorem ends_pr {l : List UInt8} {ts : List Tok} {p : Prov} (h : lexF l = .ok ts) (hp : pr ts = .ok (p, [])) : ∃ u dot, ts = u ++ [dot] ∧ dot.text = [46] ∧ dot.pos < l.length ∧ lexF (l.take dot.pos) = .ok u ∧ pr u = .error (6, []) ∧ sc (l.drop (dot.pos + 1)) (dot.pos + 1) = ([], none) ∧
    ∀ o ms, lexF o = .ok ms → ∀ ls, lexF (l ++ 10 :: o) = .ok ls → ms ≠ [] → ∃ m0 r w, ms = m0 :: r ∧ ∃ m1, m1.pos = l.length + 1 + m0.pos ∧ pr ls = .error (5, m1 :: w) := by
  obtain ⟨u, dot, rfl, hd, hu, hm⟩ := pr_ends hp
  obtain ⟨hsc, hlen, hll⟩ := lexF_ok h
  obtain ⟨-, c1, -, -, -, c6⟩ := sc_cut l 0 u dot [] (by rw [hsc])
  have hpl := sc_placed l 0
  rw [hsc] at hpl
  have hb := hpl.mem dot (by simp)
  rw [hd] at hb c6
  simp at hb hlen
  simp only [Nat.sub_zero, List.length_cons, List.length_nil, Nat.zero_add, hsc] at c1 c6
  refine ⟨u, dot, rfl, hd, by omega, lexF_mk c1 (by omega) (by simp; omega), hu, c6, fun o ms ho ls hls hne => ?_⟩
  obtain ⟨k1, -, -⟩ := lexF_ok hls
  obtain ⟨o1, -, -⟩ := lexF_ok ho
  have hj := sc_join l o 0
  rw [hsc] at hj
  simp only [] at hj
  rw [hj] at k1
  have hs := sc_shift o 0 (l.length + 1)
  rw [o1] at hs
  cases ms with
  | nil => exact absurd rfl hne
  | cons m0 r =>
    refine ⟨m0, r, r.map (shiftT (l.length + 1)), rfl, shiftT (l.length + 1) m0, by simp [shiftT]; omega, ?_⟩
    have hls2 : ls = u ++ dot :: shiftT (l.length + 1) m0 :: r.map (shiftT (l.length + 1)) := by
      have k2 := (Prod.ext_iff.1 k1).1
      simp only [Nat.zero_add] at hs k2
      rw [hs] at k2
      rw [← k2]
      simp
    rw [hls2]
    exact hm _ _
/- a text of gaps alone -/
def Gp (l : List UInt8) : Prop := sc l 0 = ([], none)
theorem gp_of {l : List UInt8} {p : Nat} (h : sc l p = ([], none)) : Gp l := by
  have hs := sc_shift l 0 p
  rw [Nat.zero_add, h] at hs
  unfold Gp
  cases h2 : sc l 0 with
  | mk a b =>
    rw [h2] at hs
    simp only [Prod.mk.injEq] at hs
    obtain ⟨h3, h4⟩ := hs
    cases a with
    | cons x y => simp at h3
    | nil => cases b with
      | none => rfl
      | some e => simp at h4
theorem Gp.first {c : UInt8} {r : List UInt8} (h : Gp (c :: r)) : blankB c = true ∨ blankB c = false ∧ c = 35 := by
  unfold Gp at h
  cases h1 : blankB c with
  | true => exact .inl rfl
  | false =>
    by_cases h2 : c = 35
    · exact .inr ⟨rfl, h2⟩
    · exfalso
      cases h3 : lexOne c r with
      | error e => rw [sc_err _ h1 h2 h3] at h; simp at h
      | ok v => obtain ⟨k, n, v⟩ := v; rw [sc_tok _ h1 h2 h3] at h; simp at h
theorem Gp.blank {c : UInt8} {r : List UInt8} (h : Gp (c :: r)) (hc : blankB c = true) : Gp r := by
  unfold Gp at h
  rw [sc_blank _ _ hc] at h
  exact gp_of h
def Com (l : List UInt8) : Prop := Gp (35 :: l)
theorem com_iff (l : List UInt8) : Com l ↔ Gp (l.drop (l.takeWhile (· != 10)).length) := by
  unfold Com
  constructor
  · intro h
    unfold Gp at h
    rw [sc_hash] at h
    exact gp_of h
  · intro h
    unfold Gp
    rw [sc_hash]
    have hs := sc_shift (l.drop (l.takeWhile (· != 10)).length) 0 (0 + 1 + (l.takeWhile (· != 10)).length)
    rw [Nat.zero_add, h] at hs
    exact hs
theorem Com.step {c : UInt8} {r : List UInt8} (h : Com (c :: r)) (hc : c ≠ 10) : Com r := by
  rw [com_iff] at h ⊢
  rw [List.takeWhile_cons_of_pos (by simpa using hc)] at h
  exact h
theorem Com.start {r : List UInt8} (h : Gp (35 :: r)) : Com (35 :: r) := by
  rw [com_iff, List.takeWhile_cons_of_pos (by decide)]
  exact (com_iff r).1 h
theorem Com.stop {r : List UInt8} (h : Com (10 :: r)) : Gp (10 :: r) := by
  rw [com_iff, List.takeWhile_cons_of_neg (by decide)] at h
  exact h
theorem byte_ne {x c : UInt8} (h : x ≠ c) : ¬ (x.toNat : Int) = c.toNat := fun e => h (UInt8.toNat_inj.1 (by omega))
abbrev blanks : List UInt8 := [32, 9, 10]
theorem blank_mem {k : Nat} {x : UInt8} (h : blanks[k]? = some x) : blankB x = true := by
  have := List.mem_of_getElem? h
  simp at this
  rcases this with rfl | rfl | rfl <;> rfl
set_option maxRecDepth 20000 in
theorem has_blank (c : UInt8) (w : World) : Calls Tryd.prog 49 #[vs blanks, .int .u8 c.toNat] w fun e w' => e = .returned (.bool (blankB c)) ∧ w' = w := by
  go_enter Tryd.func49, Tryd.ntmps49
  go_wp2_with fail
  go_loop [5] (fun v => ∃ k : Nat, k ≤ 3 ∧ v = .int .i64 k ∧ ∀ j x, j < k → blanks[j]? = some x → x ≠ c) (fun v => 3 - (intOf v).toNat)
  case atStart => exact ⟨0, by omega, rfl, fun j x h => absurd h (Nat.not_lt_zero _)⟩
  case round =>
    obtain ⟨k, hk, rfl, hno⟩ := hrel
    by_cases hlt : k < 3
    · obtain ⟨x, hx⟩ : ∃ x, blanks[k]? = some x := ⟨blanks[k]'hlt, List.getElem?_eq_getElem hlt⟩
      have hb := byte_at hx
      have hk1 : (k : Int) < 3 := by omega
      have hwk := wrap64_nat (k := k) (by omega)
      have HX := Lib.hid hx
      have HNO := Lib.hid hno
      clear hx hno
      by_cases hc : x = c
      · subst hc
        go_wp2_with fail
        go_ret
        exact ⟨by rw [blank_mem HX.out]; rfl, rfl⟩
      · have hc' := byte_ne hc
        go_wp2_with fail
        refine ⟨⟨k + 1, hlt, rfl, fun j y hj hy => ?_⟩, Nat.sub_lt_sub_left hlt (Nat.lt_succ_self _)⟩
        rcases Nat.lt_succ_iff_lt_or_eq.1 hj with h | rfl
        · exact HNO.out j y h hy
        · rw [HX.out] at hy; cases hy; exact hc
    · obtain rfl : k = 3 := by omega
      have hbl : blankB c = false := by
        have h0 := hno 0 32 (by omega) rfl
        have h1 := hno 1 9 (by omega) rfl
        have h2 := hno 2 10 (by omega) rfl
        simp [blankB, Ne.symm h0, Ne.symm h1, Ne.symm h2]
      have HBL := Lib.hid hbl
      clear hno hbl
      go_wp2_with fail
      go_ret
      exact ⟨by rw [HBL.out]; rfl, rfl⟩
theorem drop_at {l : List UInt8} {k : Nat} {c : UInt8} (h : l[k]? = some c) : l.drop k = c :: l.drop (k + 1) := by
  obtain ⟨h1, h2⟩ := List.getElem?_eq_some_iff.1 h
  rw [List.drop_eq_getElem_cons h1, h2]
set_option maxRecDepth 20000 in
set_option maxHeartbeats 1000000 in
theorem gap_any (l : List UInt8) (w : World) (hg : Gp l) (hl : l.length ≤ 20000) : Calls Tryd.prog 32 #[vs l, .int .i64 0] w fun e w' => e = .returned (.int .i64 l.length) ∧ w' = w := by
  have HG := Lib.hid hg
  clear hg
  go_enter Tryd.func32, Tryd.ntmps32
  go_wp2_with fail
  go_loop [1] (fun v => ∃ k : Nat, k ≤ l.length ∧ v = .int .i64 k ∧ Gp (l.drop k)) (fun v => l.length - (intOf v).toNat)
  case atStart => exact ⟨0, Nat.zero_le _, rfl, HG.out⟩
  case round =>
    obtain ⟨k, hk, rfl, hgk⟩ := hrel
    by_cases hlt : k < l.length
    · obtain ⟨c, hx⟩ := get_of_lt hlt
      have hb := byte_at hx
      rw [drop_at hx] at hgk
      have HGK := Lib.hid hgk
      have HX := Lib.hid hx
      have hk1 : (k : Int) < l.length := by omega
      have hwk := wrap64_nat (k := k) (by omega)
      clear hgk hx
      go_wp2_with fail
      refine (has_blank c _).mono ?_
      rintro e w' ⟨rfl, rfl⟩
      rcases HGK.out.first with hc | ⟨hc, hc2⟩
      · rw [hc]
        have HN := Lib.hid (HGK.out.blank hc)
        clear hc
        go_wp2_with fail
        exact ⟨⟨k + 1, hlt, rfl, HN.out⟩, Nat.sub_lt_sub_left hlt (Nat.lt_succ_self _)⟩
      · subst hc2
        rw [hc]
        clear hc
        have HC := Lib.hid (Com.start HGK.out)
        go_wp2_with fail
        clear hb
        go_loop [1] (fun v => ∃ j : Nat, k ≤ j ∧ j ≤ l.length ∧ v = .int .i64 j ∧ Com (l.drop j)) (fun v => l.length - (intOf v).toNat)
        case atStart => exact ⟨k, Nat.le_refl _, hk, rfl, by rw [drop_at HX.out]; exact HC.out⟩
        case round =>
          obtain ⟨j, hkj, hj, rfl, hcj⟩ := hrel
          by_cases hlj : j < l.length
          · obtain ⟨y, hy⟩ := get_of_lt hlj
            have hb := byte_at hy
            rw [drop_at hy] at hcj
            have HCJ := Lib.hid hcj
            have HY := Lib.hid hy
            have hj1 : (j : Int) < l.length := by omega
            have hwj := wrap64_nat (k := j) (by omega)
            clear hcj hy
            by_cases h10 : y = 10
            · subst h10
              have hne : k ≠ j := by
                rintro rfl
                have := HX.out.symm.trans HY.out
                cases this
              have hkj2 : k < j := Nat.lt_of_le_of_ne hkj hne
              have HN : Hid (Gp (l.drop j)) := Lib.hid (by rw [drop_at HY.out]; exact HCJ.out.stop)
              go_wp2_with fail
              exact ⟨⟨j, hj, rfl, HN.out⟩, Nat.sub_lt_sub_left hlt hkj2⟩
            · have h10' : ¬ (y.toNat : Int) = 10 := fun e => h10 (UInt8.toNat_inj.1 (by have : (10 : UInt8).toNat = 10 := rfl; omega))
              have HN := Lib.hid (HCJ.out.step h10)
              go_wp2_with fail
              exact ⟨⟨j + 1, Nat.le_succ_of_le hkj, hlj, rfl, HN.out⟩, Nat.sub_lt_sub_left hlj (Nat.lt_succ_self _)⟩
          · obtain rfl : j = l.length := by omega
            have hj1 : ¬ (l.length : Int) < l.length := by omega
            clear hcj
            go_wp2_with fail
            exact ⟨⟨l.length, Nat.le_refl _, rfl, by rw [List.drop_length]; rfl⟩, Nat.sub_lt_sub_left hlt hlt⟩
    · obtain rfl : k = l.length := by omega
      have hk1 : ¬ (l.length : Int) < l.length := by omega
      clear hgk
      go_wp2_with fail
      go_ret
      exact ⟨rfl, rfl⟩
set_option maxRecDepth 20000 in
theorem gapsR_any (l : List UInt8) (w : World) (hg : Gp l) (hl : l.length ≤ 20000) : Calls Tryd.prog 25 #[vs l] w fun e w' => e = .returned (.bool true) ∧ w' = w := by
  have HG := Lib.hid hg
  clear hg
  go_enter Tryd.func25, Tryd.ntmps25
  go_wp2_with fail
  refine (gap_any l _ HG.out hl).mono ?_
  rintro e w' ⟨rfl, rfl⟩
  go_wp2_with fail
  go_ret
  exact ⟨rfl, rfl⟩
theorem ends_out {l o : List UInt8} (h0 : outE l = 0) : lexE l = 0 ∧ ∃ u dot, lexT l = u ++ [dot] ∧ dot.pos < l.length ∧ outE (l.take dot.pos) = 6 ∧ outA (l.take dot.pos) = (l.take dot.pos).length ∧ Gp (l.drop (dot.pos + 1)) ∧
    (lexE o = 0 → lexE (l ++ 10 :: o) = 0 → lexT o ≠ [] → ∃ m0 r, lexT o = m0 :: r ∧ outE (l ++ 10 :: o) = 5 ∧ outA (l ++ 10 :: o) = ((l.length + 1 + m0.pos : Nat) : Int)) := by
  have hlx : lexE l = 0 := by
    by_cases h : lexE l = 0
    · exact h
    · have := gaps_no h; omega
  have hlt := lexE_zero hlx
  have hp : ∃ p, pr (lexT l) = .ok (p, []) := by
    rcases pr_cases (lexT l) with ⟨p, -, h2⟩ | ⟨p, t, v, -, h2⟩ | ⟨e, s, -, h2⟩
    · exact ⟨p, h2⟩
    · have := (out_err hlt h2).2.1; omega
    · have := (out_err hlt h2).2.1
      have hs := (pr_sane (lexT_len l) h2).1
      omega
  obtain ⟨p, hp⟩ := hp
  obtain ⟨u, dot, h1, -, h3, h4, h5, h6, h7⟩ := ends_pr hlt hp
  obtain ⟨-, a2, a3⟩ := out_err h4 h5
  refine ⟨hlx, u, dot, h1, h3, a2, by rw [a3]; rfl, gp_of h6, fun ho hlo hne => ?_⟩
  obtain ⟨m0, r, v, hm, m1, hp1, hpr⟩ := h7 o _ (lexE_zero ho) _ (lexE_zero hlo) hne
  obtain ⟨-, b2, b3⟩ := out_err (lexE_zero hlo) hpr
  exact ⟨m0, r, hm, b2, by rw [b3]; show ((m1.pos : Nat) : Int) = _; rw [hp1]⟩
end Go.Proofs.YtpagkakplmeokaaDoor
