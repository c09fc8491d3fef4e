/- The keys of the two replacers and their trees. Every word of a provision is short, where its names are. -/
import Derived.Test.YtbicmjmcdnkjhaaGreatDoorJP24
import Derived.Test.YtbicmjmcdnkjhaaGreatDoorJP25
import Derived.Test.YtbicmjmcdnkjhaaGreatDoorJP16
set_option linter.unusedVariables false
set_option linter.unusedSimpArgs false
namespace Go.Proofs.YtbicmjmcdnkjhaaGreatDoor
open Go.RowKit
def prN : List Pr := [(32, 58, [58]), (32, 44, [44]), (32, 46, [46]), (40, 32, [40]), (32, 41, [41])]
def mpN (k : Nat) : Nat := if k = 32 then 0 else if k = 40 then 1 else if k = 41 then 2 else if k = 44 then 3 else if k = 46 then 4 else if k = 58 then 5 else 6
theorem sumN : sumF (markF (bytesP prN)) 256 = 6 := by decide +kernel
theorem mpN_small : ∀ k, k < 256 → mpF (markF (bytesP prN)) 6 k = mpN k := by
  have h : (List.range 256).all (fun k => mpF (markF (bytesP prN)) 6 k == mpN k) = true := by decide +kernel
  intro k hk
  rw [List.all_eq_true] at h
  simpa using h k (List.mem_range.2 hk)
theorem mpN_eq : mpF (markF (bytesP prN)) 6 = mpN := by
  funext k
  by_cases hk : k < 256
  · exact mpN_small k hk
  · have e : markF (bytesP prN) k = 0 := by
      rcases Nat.eq_zero_or_pos (markF (bytesP prN) k) with h | h
      · exact h
      · exact absurd (markF_lt (Nat.pos_iff_ne_zero.1 h)) hk
    unfold mpF mpN
    rw [if_pos e, if_neg (by omega), if_neg (by omega), if_neg (by omega), if_neg (by omega), if_neg (by omega), if_neg (by omega)]
def stN : Nat → Sub := stP mpN 10 0 st0 prN
theorem stN_0 : stN 0 = .tab [(58, [58], 10), (44, [44], 8), (46, [46], 6), (41, [41], 2)] := rfl
theorem stN_1 : stN 1 = .pre 32 [40] 4 := rfl
theorem stN_no (m : Nat) (h0 : m ≠ 0) (h1 : m ≠ 1) : stN m = .no := by
  simp [stN, prN, stP, setAt, st0, mpN, h0, h1]
theorem okPN : okP mpN 6 10 prN := by
  intro i x y v h
  have hi : i < 5 := (List.getElem?_eq_some_iff.1 h).1
  have hc : i = 0 ∨ i = 1 ∨ i = 2 ∨ i = 3 ∨ i = 4 := by omega
  rcases hc with rfl | rfl | rfl | rfl | rfl
  · have e : ((32 : UInt8), (58 : UInt8), ([58] : Bytes)) = (x, y, v) := Option.some.inj h
    injection e with e1 e2
    injection e2 with e2 e3
    subst e1 e2 e3
    have hs : stP mpN 10 0 st0 (prN.take 0) (mpN (32 : UInt8).toNat) = .no := rfl
    rw [hs]
    exact ⟨by decide, by decide, trivial, fun _ _ _ h => by cases h⟩
  · have e : ((32 : UInt8), (44 : UInt8), ([44] : Bytes)) = (x, y, v) := Option.some.inj h
    injection e with e1 e2
    injection e2 with e2 e3
    subst e1 e2 e3
    have hs : stP mpN 10 0 st0 (prN.take 1) (mpN (32 : UInt8).toNat) = .pre 58 [58] 10 := rfl
    rw [hs]
    exact ⟨by decide, by decide, ⟨by decide, by decide⟩, fun _ _ _ h => by cases h; decide⟩
  · have e : ((32 : UInt8), (46 : UInt8), ([46] : Bytes)) = (x, y, v) := Option.some.inj h
    injection e with e1 e2
    injection e2 with e2 e3
    subst e1 e2 e3
    have hs : stP mpN 10 0 st0 (prN.take 2) (mpN (32 : UInt8).toNat) = .tab [(58, [58], 10), (44, [44], 8)] := rfl
    rw [hs]
    refine ⟨by decide, by decide, fun y0 v0 q0 h => ?_, fun _ _ _ h => by cases h⟩
    simp only [List.mem_cons, List.not_mem_nil, or_false, Prod.mk.injEq] at h
    rcases h with ⟨rfl, -⟩ | ⟨rfl, -⟩ <;> decide
  · have e : ((40 : UInt8), (32 : UInt8), ([40] : Bytes)) = (x, y, v) := Option.some.inj h
    injection e with e1 e2
    injection e2 with e2 e3
    subst e1 e2 e3
    have hs : stP mpN 10 0 st0 (prN.take 3) (mpN (40 : UInt8).toNat) = .no := rfl
    rw [hs]
    exact ⟨by decide, by decide, trivial, fun _ _ _ h => by cases h⟩
  · have e : ((32 : UInt8), (41 : UInt8), ([41] : Bytes)) = (x, y, v) := Option.some.inj h
    injection e with e1 e2
    injection e2 with e2 e3
    subst e1 e2 e3
    have hs : stP mpN 10 0 st0 (prN.take 4) (mpN (32 : UInt8).toNat) = .tab [(58, [58], 10), (44, [44], 8), (46, [46], 6)] := rfl
    rw [hs]
    refine ⟨by decide, by decide, fun y0 v0 q0 h => ?_, fun _ _ _ h => by cases h⟩
    simp only [List.mem_cons, List.not_mem_nil, or_false, Prod.mk.injEq] at h
    rcases h with ⟨rfl, -⟩ | ⟨rfl, -⟩ | ⟨rfl, -⟩ <;> decide
theorem stOkN : StOk mpN 6 stN where
  inj a b ha hab := by
    rw [← mpN_eq] at ha hab
    have h := mpF_inj sumN.symm _ _ ha hab
    have := congrArg UInt8.ofNat h
    simpa using this
  pre m y v q h := by
    by_cases h0 : m = 0
    · subst h0; rw [stN_0] at h; cases h; try omega
    by_cases h1 : m = 1
    · subst h1; rw [stN_1] at h; cases h; try omega
    rw [stN_no m h0 h1] at h; cases h
  tab m L h := by
    by_cases h0 : m = 0
    · subst h0; rw [stN_0] at h; cases h
      refine ⟨fun y v q h => ?_, fun y v q v' q' h h' => ?_⟩
      · simp only [List.mem_cons, List.not_mem_nil, or_false, Prod.mk.injEq] at h
        rcases h with ⟨rfl, rfl, rfl⟩ | ⟨rfl, rfl, rfl⟩ | ⟨rfl, rfl, rfl⟩ | ⟨rfl, rfl, rfl⟩ <;> exact ⟨by omega, by omega, by decide⟩
      · simp only [List.mem_cons, List.not_mem_nil, or_false, Prod.mk.injEq] at h h'
        rcases h with ⟨rfl, rfl, rfl⟩ | ⟨rfl, rfl, rfl⟩ | ⟨rfl, rfl, rfl⟩ | ⟨rfl, rfl, rfl⟩ <;> rcases h' with ⟨e, rfl, rfl⟩ | ⟨e, rfl, rfl⟩ | ⟨e, rfl, rfl⟩ | ⟨e, rfl, rfl⟩ <;> first | rfl | exact absurd e (by decide)
    by_cases h1 : m = 1
    · subst h1; rw [stN_1] at h; cases h
    rw [stN_no m h0 h1] at h; cases h
theorem mpN_inv (x : UInt8) (m b : Nat) (hb : mpN b = m) (hm : m < 6) (hbb : b < 256) (h : mpN x.toNat = m) : x = UInt8.ofNat b := by
  have e := stOkN.inj x (UInt8.ofNat b) (by rw [h]; exact hm) (by rw [h, UInt8.toNat_ofNat', Nat.mod_eq_of_lt hbb, hb])
  exact e
theorem lookN (s : Bytes) : lookB mpN 6 stN s = (hitR [40] [58, 44, 46, 41] s).map fun b => [b] := by
  match s with
  | [] => rfl
  | [x] => rfl
  | x :: y :: r =>
    by_cases h32 : x = 32
    · subst h32
      simp only [lookB, hitR]
      rw [show mpN (32 : UInt8).toNat = 0 from rfl, stN_0, if_pos (by omega)]
      by_cases y58 : y = 58
      · subst y58; rfl
      by_cases y44 : y = 44
      · subst y44; rfl
      by_cases y46 : y = 46
      · subst y46; rfl
      by_cases y41 : y = 41
      · subst y41; rfl
      have z58 : ¬ 58 = y := fun e => y58 e.symm
      have z44 : ¬ 44 = y := fun e => y44 e.symm
      have z46 : ¬ 46 = y := fun e => y46 e.symm
      have z41 : ¬ 41 = y := fun e => y41 e.symm
      simp [y58, z58, y44, z44, y46, z46, y41, z41]
    by_cases h40 : x = 40
    · subst h40
      simp only [lookB, hitR]
      rw [show mpN (40 : UInt8).toNat = 1 from rfl, stN_1, if_pos (by omega)]
      by_cases y32 : y = 32
      · subst y32; rfl
      have z32 : ¬ 32 = y := fun e => y32 e.symm
      simp [y32, z32]
    have hno : lookB mpN 6 stN (x :: y :: r) = none := by
      simp only [lookB]
      split
      · rw [stN_no (mpN x.toNat) (fun e => h32 (mpN_inv x 0 32 rfl (by decide) (by decide) e)) (fun e => h40 (mpN_inv x 1 40 rfl (by decide) (by decide) e))]
      · rfl
    rw [hno]
    simp [hitR, h32, h40]
def prS : List Pr := [(40, 32, [40]), (32, 41, [41]), (91, 32, [91]), (32, 93, [93])]
def mpS (k : Nat) : Nat := if k = 32 then 0 else if k = 40 then 1 else if k = 41 then 2 else if k = 91 then 3 else if k = 93 then 4 else 5
theorem sumS : sumF (markF (bytesP prS)) 256 = 5 := by decide +kernel
theorem mpS_small : ∀ k, k < 256 → mpF (markF (bytesP prS)) 5 k = mpS k := by
  have h : (List.range 256).all (fun k => mpF (markF (bytesP prS)) 5 k == mpS k) = true := by decide +kernel
  intro k hk
  rw [List.all_eq_true] at h
  simpa using h k (List.mem_range.2 hk)
theorem mpS_eq : mpF (markF (bytesP prS)) 5 = mpS := by
  funext k
  by_cases hk : k < 256
  · exact mpS_small k hk
  · have e : markF (bytesP prS) k = 0 := by
      rcases Nat.eq_zero_or_pos (markF (bytesP prS) k) with h | h
      · exact h
      · exact absurd (markF_lt (Nat.pos_iff_ne_zero.1 h)) hk
    unfold mpF mpS
    rw [if_pos e, if_neg (by omega), if_neg (by omega), if_neg (by omega), if_neg (by omega), if_neg (by omega)]
def stS : Nat → Sub := stP mpS 8 0 st0 prS
theorem stS_0 : stS 0 = .tab [(41, [41], 6), (93, [93], 2)] := rfl
theorem stS_1 : stS 1 = .pre 32 [40] 8 := rfl
theorem stS_3 : stS 3 = .pre 32 [91] 4 := rfl
theorem stS_no (m : Nat) (h0 : m ≠ 0) (h1 : m ≠ 1) (h3 : m ≠ 3) : stS m = .no := by
  simp [stS, prS, stP, setAt, st0, mpS, h0, h1, h3]
theorem okPS : okP mpS 5 8 prS := by
  intro i x y v h
  have hi : i < 4 := (List.getElem?_eq_some_iff.1 h).1
  have hc : i = 0 ∨ i = 1 ∨ i = 2 ∨ i = 3 := by omega
  rcases hc with rfl | rfl | rfl | rfl
  · have e : ((40 : UInt8), (32 : UInt8), ([40] : Bytes)) = (x, y, v) := Option.some.inj h
    injection e with e1 e2
    injection e2 with e2 e3
    subst e1 e2 e3
    have hs : stP mpS 8 0 st0 (prS.take 0) (mpS (40 : UInt8).toNat) = .no := rfl
    rw [hs]
    exact ⟨by decide, by decide, trivial, fun _ _ _ h => by cases h⟩
  · have e : ((32 : UInt8), (41 : UInt8), ([41] : Bytes)) = (x, y, v) := Option.some.inj h
    injection e with e1 e2
    injection e2 with e2 e3
    subst e1 e2 e3
    have hs : stP mpS 8 0 st0 (prS.take 1) (mpS (32 : UInt8).toNat) = .no := rfl
    rw [hs]
    exact ⟨by decide, by decide, trivial, fun _ _ _ h => by cases h⟩
  · have e : ((91 : UInt8), (32 : UInt8), ([91] : Bytes)) = (x, y, v) := Option.some.inj h
    injection e with e1 e2
    injection e2 with e2 e3
    subst e1 e2 e3
    have hs : stP mpS 8 0 st0 (prS.take 2) (mpS (91 : UInt8).toNat) = .no := rfl
    rw [hs]
    exact ⟨by decide, by decide, trivial, fun _ _ _ h => by cases h⟩
  · have e : ((32 : UInt8), (93 : UInt8), ([93] : Bytes)) = (x, y, v) := Option.some.inj h
    injection e with e1 e2
    injection e2 with e2 e3
    subst e1 e2 e3
    have hs : stP mpS 8 0 st0 (prS.take 3) (mpS (32 : UInt8).toNat) = .pre 41 [41] 6 := rfl
    rw [hs]
    exact ⟨by decide, by decide, ⟨by decide, by decide⟩, fun _ _ _ h => by cases h; decide⟩
theorem stOkS : StOk mpS 5 stS where
  inj a b ha hab := by
    rw [← mpS_eq] at ha hab
    have h := mpF_inj sumS.symm _ _ ha hab
    have := congrArg UInt8.ofNat h
    simpa using this
  pre m y v q h := by
    by_cases h0 : m = 0
    · subst h0; rw [stS_0] at h; cases h; try omega
    by_cases h1 : m = 1
    · subst h1; rw [stS_1] at h; cases h; try omega
    by_cases h3 : m = 3
    · subst h3; rw [stS_3] at h; cases h; try omega
    rw [stS_no m h0 h1 h3] at h; cases h
  tab m L h := by
    by_cases h0 : m = 0
    · subst h0; rw [stS_0] at h; cases h
      refine ⟨fun y v q h => ?_, fun y v q v' q' h h' => ?_⟩
      · simp only [List.mem_cons, List.not_mem_nil, or_false, Prod.mk.injEq] at h
        rcases h with ⟨rfl, rfl, rfl⟩ | ⟨rfl, rfl, rfl⟩ <;> exact ⟨by omega, by omega, by decide⟩
      · simp only [List.mem_cons, List.not_mem_nil, or_false, Prod.mk.injEq] at h h'
        rcases h with ⟨rfl, rfl, rfl⟩ | ⟨rfl, rfl, rfl⟩ <;> rcases h' with ⟨e, rfl, rfl⟩ | ⟨e, rfl, rfl⟩ <;> first | rfl | exact absurd e (by decide)
    by_cases h1 : m = 1
    · subst h1; rw [stS_1] at h; cases h
    by_cases h3 : m = 3
    · subst h3; rw [stS_3] at h; cases h
    rw [stS_no m h0 h1 h3] at h; cases h
theorem mpS_inv (x : UInt8) (m b : Nat) (hb : mpS b = m) (hm : m < 5) (hbb : b < 256) (h : mpS x.toNat = m) : x = UInt8.ofNat b := by
  have e := stOkS.inj x (UInt8.ofNat b) (by rw [h]; exact hm) (by rw [h, UInt8.toNat_ofNat', Nat.mod_eq_of_lt hbb, hb])
  exact e
theorem lookS (s : Bytes) : lookB mpS 5 stS s = (hitR [40, 91] [41, 93] s).map fun b => [b] := by
  match s with
  | [] => rfl
  | [x] => rfl
  | x :: y :: r =>
    by_cases h32 : x = 32
    · subst h32
      simp only [lookB, hitR]
      rw [show mpS (32 : UInt8).toNat = 0 from rfl, stS_0, if_pos (by omega)]
      by_cases y41 : y = 41
      · subst y41; rfl
      by_cases y93 : y = 93
      · subst y93; rfl
      have z41 : ¬ 41 = y := fun e => y41 e.symm
      have z93 : ¬ 93 = y := fun e => y93 e.symm
      simp [y41, z41, y93, z93]
    by_cases h40 : x = 40
    · subst h40
      simp only [lookB, hitR]
      rw [show mpS (40 : UInt8).toNat = 1 from rfl, stS_1, if_pos (by omega)]
      by_cases y32 : y = 32
      · subst y32; rfl
      have z32 : ¬ 32 = y := fun e => y32 e.symm
      simp [y32, z32]
    by_cases h91 : x = 91
    · subst h91
      simp only [lookB, hitR]
      rw [show mpS (91 : UInt8).toNat = 3 from rfl, stS_3, if_pos (by omega)]
      by_cases y32 : y = 32
      · subst y32; rfl
      have z32 : ¬ 32 = y := fun e => y32 e.symm
      simp [y32, z32]
    have hno : lookB mpS 5 stS (x :: y :: r) = none := by
      simp only [lookB]
      split
      · rw [stS_no (mpS x.toNat) (fun e => h32 (mpS_inv x 0 32 rfl (by decide) (by decide) e)) (fun e => h40 (mpS_inv x 1 40 rfl (by decide) (by decide) e)) (fun e => h91 (mpS_inv x 3 91 rfl (by decide) (by decide) e))]
      · rfl
    rw [hno]
    simp [hitR, h32, h40, h91]
end Go.Proofs.YtbicmjmcdnkjhaaGreatDoor
namespace Go.Proofs.YtbicmjmcdnkjhaaGreatDoor
def Sh (w : Bytes) : Prop := w.length ≤ 60
theorem sh_le {w : Bytes} (h : w.length ≤ 60) : Sh w := h
theorem sh_dec {n : Nat} (h : n ≤ 1000000) : Sh (dec n) := by
  have := (dec_spec 7 n (by omega) (by omega)).2.2.2
  unfold Sh
  omega
theorem shapeFs_all : ∀ {ks : List Tree}, shapeFs ks = true → ∀ k ∈ ks, shapeF k = true
  | [], _, k, hk => by simp at hk
  | a :: r, h, k, hk => by
    rw [shapeFs, Bool.and_eq_true] at h
    rcases List.mem_cons.1 hk with rfl | hk
    · exact h.1
    · exact shapeFs_all h.2 k hk
theorem shapeSs_all : ∀ {ks : List Tree}, shapeSs ks = true → ∀ k ∈ ks, shapeS k = true
  | [], _, k, hk => by simp at hk
  | a :: r, h, k, hk => by
    rw [shapeSs, Bool.and_eq_true] at h
    rcases List.mem_cons.1 hk with rfl | hk
    · exact h.1
    · exact shapeSs_all h.2 k hk
theorem namesFs_mem : ∀ {ks : List Tree} {k : Tree} {x : Bytes}, k ∈ ks → x ∈ namesF k → x ∈ namesFs ks
  | [], k, x, hk, _ => by simp at hk
  | a :: r, k, x, hk, hx => by
    rw [namesFs]
    rcases List.mem_cons.1 hk with rfl | hk
    · exact List.mem_append_left _ hx
    · exact List.mem_append_right _ (namesFs_mem hk hx)
theorem namesSs_mem : ∀ {ks : List Tree} {k : Tree} {x : Bytes}, k ∈ ks → x ∈ namesS k → x ∈ namesSs ks
  | [], k, x, hk, _ => by simp at hk
  | a :: r, k, x, hk, hx => by
    rw [namesSs]
    rcases List.mem_cons.1 hk with rfl | hk
    · exact List.mem_append_left _ hx
    · exact List.mem_append_right _ (namesSs_mem hk hx)
theorem sh_F : ∀ (s : Nat) (t : Tree), t.size ≤ s → shapeF t = true → (∀ x ∈ namesF t, Sh x) → ∀ w ∈ wF t, Sh w
  | 0, t, h, _, _ => by have := tree_pos t; omega
  | s + 1, .mk op name cmp n ks, hs, hok, hn => by
    rw [shapeF] at hok
    simp only [Bool.and_eq_true] at hok
    obtain ⟨⟨⟨h1, h2⟩, h3⟩, h4⟩ := hok
    rw [Tree.size] at hs
    have hk := shapeFs_all h4
    have hnk : ∀ k ∈ ks, ∀ x ∈ namesF k, Sh x := fun k hm x hx => hn x (by rw [namesF]; exact List.mem_append_right _ (namesFs_mem hm hx))
    have ih : ∀ b, ∀ a ∈ wFs b ks, ∀ w ∈ a, Sh w := fun b a ha w hw => by
      rw [wFs_map] at ha
      obtain ⟨k, hm, rfl⟩ := List.mem_map.1 ha
      rcases mem_wrapW hw with rfl | rfl | hw
      · exact sh_le (by decide)
      · exact sh_le (by decide)
      · exact sh_F s k (by have := kid_size hm; omega) (hk k hm) (hnk k hm) w hw
    intro w hw
    rw [wF] at hw
    by_cases o1 : op = 1
    · rw [if_pos o1] at hw; rw [List.mem_singleton.1 hw]; exact sh_le (by decide)
    by_cases o2 : op = 2
    · rw [if_neg o1, if_pos o2] at hw; rw [List.mem_singleton.1 hw]; exact sh_le (by decide)
    by_cases o3 : op = 3
    · rw [if_neg o1, if_neg o2, if_pos o3] at hw
      rw [if_pos o3] at h1
      simp only [Bool.and_eq_true, decide_eq_true_eq] at h1
      simp only [List.mem_cons, List.not_mem_nil, or_false] at hw
      rcases hw with rfl | rfl | rfl
      · exact hn _ (by rw [namesF, if_pos (Or.inl o3)]; simp)
      · have : cmp = 1 ∨ cmp = 2 ∨ cmp = 3 ∨ cmp = 4 ∨ cmp = 5 ∨ cmp = 6 := by omega
        rcases this with rfl | rfl | rfl | rfl | rfl | rfl <;> exact sh_le (by decide)
      · exact sh_dec h1.2
    by_cases o4 : op = 4
    · rw [if_neg o1, if_neg o2, if_neg o3, if_pos o4] at hw
      rw [List.mem_singleton.1 hw]; exact hn _ (by rw [namesF, if_pos (Or.inr o4)]; simp)
    by_cases o5 : op = 5
    · rw [if_neg o1, if_neg o2, if_neg o3, if_neg o4, if_pos o5] at hw
      rcases List.mem_cons.1 hw with rfl | hw
      · exact sh_le (by decide)
      · obtain ⟨a, ha, hw⟩ := List.mem_flatten.1 hw
        exact ih false a ha w hw
    by_cases o6 : op = 6
    · rw [if_neg o1, if_neg o2, if_neg o3, if_neg o4, if_neg o5, if_pos o6] at hw
      rcases mem_sepW hw with rfl | ⟨a, ha, hw⟩
      · exact sh_le (by decide)
      · exact ih false a ha w hw
    by_cases o7 : op = 7
    · rw [if_neg o1, if_neg o2, if_neg o3, if_neg o4, if_neg o5, if_neg o6, if_pos o7] at hw
      rcases mem_sepW hw with rfl | ⟨a, ha, hw⟩
      · exact sh_le (by decide)
      · exact ih true a ha w hw
    · rw [if_neg o1, if_neg o2, if_neg o3, if_neg o4, if_neg o5, if_neg o6, if_neg o7] at hw
      simp at hw
theorem sh_S : ∀ (s : Nat) (t : Tree), t.size ≤ s → shapeS t = true → (∀ x ∈ namesS t, Sh x) → ∀ w ∈ wS t, Sh w
  | 0, t, h, _, _ => by have := tree_pos t; omega
  | s + 1, .mk op name cmp n ks, hs, hok, hn => by
    rw [shapeS] at hok
    simp only [Bool.and_eq_true] at hok
    obtain ⟨⟨⟨h1, h2⟩, h3⟩, h4⟩ := hok
    rw [Tree.size] at hs
    have hk := shapeSs_all h4
    have hnk : ∀ k ∈ ks, ∀ x ∈ namesS k, Sh x := fun k hm x hx => hn x (by rw [namesS]; exact List.mem_append_right _ (namesSs_mem hm hx))
    have ih : ∀ b, ∀ a ∈ wSs b ks, ∀ w ∈ a, Sh w := fun b a ha w hw => by
      rw [wSs_map] at ha
      obtain ⟨k, hm, rfl⟩ := List.mem_map.1 ha
      rcases mem_wrapW hw with rfl | rfl | hw
      · exact sh_le (by decide)
      · exact sh_le (by decide)
      · exact sh_S s k (by have := kid_size hm; omega) (hk k hm) (hnk k hm) w hw
    intro w hw
    rw [wS] at hw
    by_cases o1 : op = 1
    · rw [if_pos o1] at hw; rw [List.mem_singleton.1 hw]; exact sh_le (by decide)
    by_cases o2 : op = 2
    · rw [if_neg o1, if_pos o2] at hw; rw [List.mem_singleton.1 hw]; exact sh_le (by decide)
    by_cases o3 : op = 3
    · rw [if_neg o1, if_neg o2, if_pos o3] at hw
      have hn0 : n ≤ 1000000 := by have := h1.2; rw [if_pos o3] at this; simpa using this
      simp only [List.mem_cons, List.not_mem_nil, or_false] at hw
      rcases hw with rfl | rfl
      · exact sh_le (by decide)
      · exact sh_dec hn0
    by_cases o4 : op = 4 ∨ op = 5 ∨ op = 6 ∨ op = 7
    · rw [if_neg o1, if_neg o2, if_neg o3, if_pos o4] at hw
      simp only [List.mem_cons, List.not_mem_nil, or_false] at hw
      rcases hw with rfl | rfl
      · rcases o4 with rfl | rfl | rfl | rfl <;> exact sh_le (by decide)
      · exact hn _ (by rw [namesS, if_pos o4]; simp)
    by_cases o8 : op = 8
    · rw [if_neg o1, if_neg o2, if_neg o3, if_neg o4, if_pos o8] at hw
      rcases mem_sepW hw with rfl | ⟨a, ha, hw⟩
      · exact sh_le (by decide)
      · exact ih false a ha w hw
    by_cases o9 : op = 9
    · rw [if_neg o1, if_neg o2, if_neg o3, if_neg o4, if_neg o8, if_pos o9] at hw
      rcases mem_sepW hw with rfl | ⟨a, ha, hw⟩
      · exact sh_le (by decide)
      · exact ih true a ha w hw
    · rw [if_neg o1, if_neg o2, if_neg o3, if_neg o4, if_neg o8, if_neg o9] at hw
      simp at hw
theorem sh_part {b : Bool} {k : Bytes} {l : List Bytes} (hk : Sh k) (hl : ∀ w ∈ l, Sh w) : ∀ w ∈ partW b k l, Sh w := by
  unfold partW
  intro w hw
  split at hw
  · rcases List.mem_cons.1 hw with rfl | hw
    · exact hk
    · exact hl w hw
  · simp at hw
theorem sh_P {p : Prov} (hp : WrOk p) (hn : ∀ x ∈ namesP p, Sh x) : ∀ w ∈ wP p, Sh w := by
  intro w hw
  unfold wP tail0 tail1 tail2 tail3 at hw
  simp only [List.mem_cons, List.mem_append, List.not_mem_nil, or_false] at hw
  rcases hw with rfl | rfl | rfl | hw | hw | hw | hw | hw | hw | rfl
  · have hr := hp.rank
    have : p.rank = 1 ∨ p.rank = 2 ∨ p.rank = 3 ∨ p.rank = 4 := by omega
    rcases this with h | h | h | h <;> rw [h] <;> exact sh_le (by decide)
  · exact hn _ (by simp [namesP])
  · exact sh_le (by decide)
  · unfold kindW at hw
    split at hw
    · simp only [List.mem_cons, List.not_mem_nil, or_false] at hw
      rcases hw with rfl | rfl
      · exact sh_le (by decide)
      · exact hn _ (by simp [namesP])
    · simp only [List.mem_cons, List.not_mem_nil, or_false] at hw
      rcases hw with rfl | rfl | rfl | rfl
      · exact sh_le (by decide)
      · exact hn _ (by simp [namesP])
      · exact sh_le (by decide)
      · exact sh_dec hp.value
  · exact sh_part (sh_le (by decide)) (sh_F _ _ (Nat.le_refl _) hp.cond (fun x hx => hn x (by simp [namesP, hx]))) w hw
  · unfold excW at hw
    split at hw
    · simp at hw
    · rcases List.mem_cons.1 hw with rfl | hw
      · exact sh_le (by decide)
      · rcases mem_sepW hw with rfl | ⟨a, ha, hw⟩
        · exact sh_le (by decide)
        · obtain ⟨s, hs, rfl⟩ := List.mem_map.1 ha
          rw [List.mem_singleton.1 hw]
          exact hn _ (by simp [namesP, hs])
  · exact sh_part (sh_le (by decide)) (sh_S _ _ (Nat.le_refl _) hp.beg (fun x hx => hn x (by simp [namesP, hx]))) w hw
  · exact sh_part (sh_le (by decide)) (sh_S _ _ (Nat.le_refl _) hp.fin (fun x hx => hn x (by simp [namesP, hx]))) w hw
  · exact sh_part (sh_le (by decide)) (sh_S _ _ (Nat.le_refl _) hp.aga (fun x hx => hn x (by simp [namesP, hx]))) w hw
  · exact sh_le (by decide)
namespace So
theorem sh_F : ∀ (s : Nat) (t : Tree), t.size ≤ s → t.size ≤ 200 → shapeF t = true → (∀ x ∈ Go.Proofs.YtbicmjmcdnkjhaaGreatDoor.namesF t, Sh x) → ∀ w ∈ wF t, Sh w
  | 0, t, h, _, _, _ => by have := tree_pos t; omega
  | s + 1, .mk op name cmp n ks, hs, h200, hok, hn => by
    rw [shapeF] at hok
    simp only [Bool.and_eq_true] at hok
    obtain ⟨⟨⟨h1, h2⟩, h3⟩, h4⟩ := hok
    rw [Tree.size] at hs h200
    have hk := shapeFs_all h4
    have hnk : ∀ k ∈ ks, ∀ x ∈ Go.Proofs.YtbicmjmcdnkjhaaGreatDoor.namesF k, Sh x := fun k hm x hx => hn x (by rw [Go.Proofs.YtbicmjmcdnkjhaaGreatDoor.namesF]; exact List.mem_append_right _ (namesFs_mem hm hx))
    have hkl := kids_len ks
    intro w hw
    rw [wF, wFs_flat, List.mem_append] at hw
    rcases hw with hw | hw
    · obtain ⟨k, hm, hw⟩ := List.mem_flatMap.1 hw
      exact sh_F s k (by have := kid_size hm; omega) (by have := kid_size hm; omega) (hk k hm) (hnk k hm) w hw
    by_cases o1 : op = 1
    · rw [if_pos o1] at hw; rw [List.mem_singleton.1 hw]; exact sh_le (by decide)
    by_cases o2 : op = 2
    · rw [if_neg o1, if_pos o2] at hw; rw [List.mem_singleton.1 hw]; exact sh_le (by decide)
    by_cases o3 : op = 3
    · rw [if_neg o1, if_neg o2, if_pos o3] at hw
      rw [if_pos o3] at h1
      simp only [Bool.and_eq_true, decide_eq_true_eq] at h1
      simp only [List.mem_cons, List.not_mem_nil, or_false] at hw
      rcases hw with rfl | rfl | rfl
      · exact hn _ (by rw [Go.Proofs.YtbicmjmcdnkjhaaGreatDoor.namesF, if_pos (Or.inl o3)]; simp)
      · exact sh_dec h1.2
      · have : cmp = 1 ∨ cmp = 2 ∨ cmp = 3 ∨ cmp = 4 ∨ cmp = 5 ∨ cmp = 6 := by omega
        rcases this with rfl | rfl | rfl | rfl | rfl | rfl <;> exact sh_le (by decide)
    by_cases o4 : op = 4
    · rw [if_neg o1, if_neg o2, if_neg o3, if_pos o4] at hw
      simp only [List.mem_cons, List.not_mem_nil, or_false] at hw
      rcases hw with rfl | rfl
      · exact hn _ (by rw [Go.Proofs.YtbicmjmcdnkjhaaGreatDoor.namesF, if_pos (Or.inr o4)]; simp)
      · exact sh_le (by decide)
    by_cases o5 : op = 5
    · rw [if_neg o1, if_neg o2, if_neg o3, if_neg o4, if_pos o5] at hw
      rw [List.mem_singleton.1 hw]; exact sh_le (by decide)
    by_cases o6 : op = 6
    · rw [if_neg o1, if_neg o2, if_neg o3, if_neg o4, if_neg o5, if_pos o6] at hw
      simp only [List.mem_cons, List.not_mem_nil, or_false] at hw
      rcases hw with rfl | rfl
      · exact sh_le (by decide)
      · exact sh_dec (by omega)
    by_cases o7 : op = 7
    · rw [if_neg o1, if_neg o2, if_neg o3, if_neg o4, if_neg o5, if_neg o6, if_pos o7] at hw
      simp only [List.mem_cons, List.not_mem_nil, or_false] at hw
      rcases hw with rfl | rfl
      · exact sh_le (by decide)
      · exact sh_dec (by omega)
    · rw [if_neg o1, if_neg o2, if_neg o3, if_neg o4, if_neg o5, if_neg o6, if_neg o7] at hw
      simp at hw
theorem sh_S : ∀ (s : Nat) (t : Tree), t.size ≤ s → t.size ≤ 200 → shapeS t = true → (∀ x ∈ namesS t, Sh x) → ∀ w ∈ wS t, Sh w
  | 0, t, h, _, _, _ => by have := tree_pos t; omega
  | s + 1, .mk op name cmp n ks, hs, h200, hok, hn => by
    rw [shapeS] at hok
    simp only [Bool.and_eq_true] at hok
    obtain ⟨⟨⟨h1, h2⟩, h3⟩, h4⟩ := hok
    rw [Tree.size] at hs h200
    have hk := shapeSs_all h4
    have hnk : ∀ k ∈ ks, ∀ x ∈ namesS k, Sh x := fun k hm x hx => hn x (by rw [namesS]; exact List.mem_append_right _ (namesSs_mem hm hx))
    have hkl := kids_len ks
    intro w hw
    rw [wS, wSs_flat, List.mem_append] at hw
    rcases hw with hw | hw
    · obtain ⟨k, hm, hw⟩ := List.mem_flatMap.1 hw
      exact sh_S s k (by have := kid_size hm; omega) (by have := kid_size hm; omega) (hk k hm) (hnk k hm) w hw
    by_cases o1 : op = 1
    · rw [if_pos o1] at hw; rw [List.mem_singleton.1 hw]; exact sh_le (by decide)
    by_cases o2 : op = 2
    · rw [if_neg o1, if_pos o2] at hw; rw [List.mem_singleton.1 hw]; exact sh_le (by decide)
    by_cases o3 : op = 3
    · rw [if_neg o1, if_neg o2, if_pos o3] at hw
      have hn0 : n ≤ 1000000 := by have := h1.2; rw [if_pos o3] at this; simpa using this
      simp only [List.mem_cons, List.not_mem_nil, or_false] at hw
      rcases hw with rfl | rfl
      · exact sh_dec hn0
      · exact sh_le (by decide)
    by_cases o4 : op = 4 ∨ op = 5 ∨ op = 6 ∨ op = 7
    · rw [if_neg o1, if_neg o2, if_neg o3, if_pos o4] at hw
      simp only [List.mem_cons, List.not_mem_nil, or_false] at hw
      rcases hw with rfl | rfl
      · exact hn _ (by rw [namesS, if_pos o4]; simp)
      · rcases o4 with rfl | rfl | rfl | rfl <;> exact sh_le (by decide)
    by_cases o8 : op = 8
    · rw [if_neg o1, if_neg o2, if_neg o3, if_neg o4, if_pos o8] at hw
      simp only [List.mem_cons, List.not_mem_nil, or_false] at hw
      rcases hw with rfl | rfl
      · exact sh_le (by decide)
      · exact sh_dec (by omega)
    by_cases o9 : op = 9
    · rw [if_neg o1, if_neg o2, if_neg o3, if_neg o4, if_neg o8, if_pos o9] at hw
      simp only [List.mem_cons, List.not_mem_nil, or_false] at hw
      rcases hw with rfl | rfl
      · exact sh_le (by decide)
      · exact sh_dec (by omega)
    · rw [if_neg o1, if_neg o2, if_neg o3, if_neg o4, if_neg o8, if_neg o9] at hw
      simp at hw
theorem sh_br {l : List Bytes} (h : ∀ w ∈ l, Sh w) : ∀ w ∈ brW l, Sh w := by
  intro w hw
  unfold brW at hw
  simp only [List.mem_cons, List.mem_append, List.not_mem_nil, or_false] at hw
  rcases hw with rfl | hw | rfl
  · exact sh_le (by decide)
  · exact h w hw
  · exact sh_le (by decide)
theorem sh_P {p : Prov} (hp : WrOk p) (hn : ∀ x ∈ namesP p, Sh x) : ∀ w ∈ wP p, Sh w := by
  intro w hw
  unfold wP tail0 tail1 tail2 tail3 at hw
  simp only [List.mem_append] at hw
  rcases hw with hw | hw | hw | hw | hw | hw | hw
  · exact sh_part (sh_le (by decide)) (sh_br (sh_F _ _ (Nat.le_refl _) (small_200 hp.condS) hp.cond (fun x hx => hn x (by simp [namesP, hx])))) w hw
  · unfold kindW at hw
    split at hw
    · simp only [List.mem_cons, List.not_mem_nil, or_false] at hw
      rcases hw with rfl | rfl
      · exact sh_le (by decide)
      · exact hn _ (by simp [namesP])
    · simp only [List.mem_cons, List.not_mem_nil, or_false] at hw
      rcases hw with rfl | rfl | rfl | rfl
      · exact sh_le (by decide)
      · exact hn _ (by simp [namesP])
      · exact sh_le (by decide)
      · exact sh_dec hp.value
  · unfold excW at hw
    split at hw
    · simp at hw
    · simp only [List.mem_cons, List.mem_append, List.not_mem_nil, or_false] at hw
      rcases hw with rfl | rfl | hw | rfl
      · exact sh_le (by decide)
      · exact sh_le (by decide)
      · exact hn _ (by simp [namesP, hw])
      · exact sh_le (by decide)
  · exact sh_part (sh_le (by decide)) (sh_br (sh_S _ _ (Nat.le_refl _) (small_200 hp.begS) hp.beg (fun x hx => hn x (by simp [namesP, hx])))) w hw
  · exact sh_part (sh_le (by decide)) (sh_br (sh_S _ _ (Nat.le_refl _) (small_200 hp.finS) hp.fin (fun x hx => hn x (by simp [namesP, hx])))) w hw
  · exact sh_part (sh_le (by decide)) (sh_br (sh_S _ _ (Nat.le_refl _) (small_200 hp.agaS) hp.aga (fun x hx => hn x (by simp [namesP, hx])))) w hw
  · unfold endW at hw
    simp only [List.mem_cons, List.not_mem_nil, or_false] at hw
    rcases hw with rfl | rfl | rfl | rfl
    · exact sh_le (by decide)
    · have hr := hp.rank
      have : p.rank = 1 ∨ p.rank = 2 ∨ p.rank = 3 ∨ p.rank = 4 := by omega
      rcases this with h | h | h | h <;> rw [h] <;> exact sh_le (by decide)
    · exact hn _ (by simp [namesP])
    · exact sh_le (by decide)
end So
theorem join_len : ∀ l : List Bytes, (∀ w ∈ l, Sh w) → (joinB l).length ≤ 61 * l.length
  | [], _ => by simp [joinB]
  | [w], h => by have := h w (by simp); unfold Sh at this; simp [joinB]; omega
  | w :: w' :: r, h => by
    have h1 := h w (by simp)
    have h2 := join_len (w' :: r) (fun x hx => h x (by simp [hx]))
    unfold Sh at h1
    simp only [joinB, List.length_append, List.length_cons] at h2 ⊢
    omega
end Go.Proofs.YtbicmjmcdnkjhaaGreatDoor
