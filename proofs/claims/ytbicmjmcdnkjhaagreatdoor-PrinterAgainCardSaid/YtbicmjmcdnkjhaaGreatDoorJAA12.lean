/- The keys of the two replacers and their trees. -/
import Derived.Test.YtbicmjmcdnkjhaaGreatDoorJAA11
import Derived.LaidSub
import Derived.ProofKit
import Derived.LaidMore
import Derived.OpenShut
import Derived.HandedShaped
import Derived.SevenTiedAt
import Derived.Shelf.Vars
import Derived.Deep.Fields
set_option linter.unusedVariables false
set_option linter.unusedSimpArgs false
namespace Go.Proofs.YtbicmjmcdnkjhaaGreatDoor
section
open Go.RowKit
def prN : List Pr := [(32, 58, [58]), (32, 44, [44]), (32, 46, [46]), (40, 32, [40]), (32, 41, [41])]
def mpN (k : Nat) : Nat := if k = 32 then 0 else if k = 40 then 1 else if k = 41 then 2 else if k = 44 then 3 else if k = 46 then 4 else if k = 58 then 5 else 6
theorem sumN : sumF (Jf (Jh prN)) 256 = 6 := by decide +kernel
theorem qde : ∀ k, k < 256 -> mpF (Jf (Jh prN)) 6 k = mpN k := by
 have h : (List.range 256).all (fun k => mpF (Jf (Jh prN)) 6 k == mpN k) = true := by decide +kernel
 intro k hk; rw [List.all_eq_true] at h; simpa using h k (List.mem_range.2 hk)
theorem Cp : mpF (Jf (Jh prN)) 6 = mpN := by
 funext k
 by_cases hk : k < 256
 · exact qde k hk
 · have e : Jf (Jh prN) k = 0 := by
     rcases Nat.eq_zero_or_pos (Jf (Jh prN) k) with h | h
     · exact h
     · exact absurd (Mh (Nat.pos_iff_ne_zero.1 h)) hk
   unfold mpF mpN; rw [if_pos e, if_neg (by omega), if_neg (by omega), if_neg (by omega), if_neg (by omega), if_neg (by omega), if_neg (by omega)]
def stN : Nat -> Sub := stP mpN 10 0 st0 prN
theorem qe8 : stN 0 = .tab [(58, [58], 10), (44, [44], 8), (46, [46], 6), (41, [41], 2)] := rfl
theorem qe7 : stN 1 = .pre 32 [40] 4 := rfl
theorem Sy (m : Nat) (h0 : m ≠ 0) (h1 : m ≠ 1) : stN m = .no := by
 simp [stN, prN, stP, I3, st0, mpN, h0, h1]
theorem okPN : okP mpN 6 10 prN := by
 intro i x y v h; have hi : i < 5 := (List.getElem?_eq_some_iff.1 h).1; have hc : i = 0 \/ i = 1 \/ i = 2 \/ i = 3 \/ i = 4 := by omega
 rcases hc with rfl | rfl | rfl | rfl | rfl
 · have e : ((32 : UInt8), (58 : UInt8), ([58] : Qa)) = (x, y, v) := Option.some.inj h; injection e with e1 e2; injection e2 with e2 e3; subst e1 e2 e3; have hs : stP mpN 10 0 st0 (prN.take 0) (mpN (32 : UInt8).toNat) = .no := rfl; rw [hs]; exact ⟨by decide, by decide, trivial, fun _ _ _ h => by cases h⟩
 · have e : ((32 : UInt8), (44 : UInt8), ([44] : Qa)) = (x, y, v) := Option.some.inj h; injection e with e1 e2; injection e2 with e2 e3; subst e1 e2 e3; have hs : stP mpN 10 0 st0 (prN.take 1) (mpN (32 : UInt8).toNat) = .pre 58 [58] 10 := rfl; rw [hs]; exact ⟨by decide, by decide, ⟨by decide, by decide⟩, fun _ _ _ h => by cases h; decide⟩
 · have e : ((32 : UInt8), (46 : UInt8), ([46] : Qa)) = (x, y, v) := Option.some.inj h; injection e with e1 e2; injection e2 with e2 e3; subst e1 e2 e3; have hs : stP mpN 10 0 st0 (prN.take 2) (mpN (32 : UInt8).toNat) = .tab [(58, [58], 10), (44, [44], 8)] := rfl; rw [hs]; refine ⟨by decide, by decide, fun y0 v0 q0 h => ?_, fun _ _ _ h => by cases h⟩; simp only [List.mem_cons, List.not_mem_nil, or_false, Prod.mk.injEq] at h; rcases h with ⟨rfl, -⟩ | ⟨rfl, -⟩ <;> decide
 · have e : ((40 : UInt8), (32 : UInt8), ([40] : Qa)) = (x, y, v) := Option.some.inj h; injection e with e1 e2; injection e2 with e2 e3; subst e1 e2 e3; have hs : stP mpN 10 0 st0 (prN.take 3) (mpN (40 : UInt8).toNat) = .no := rfl; rw [hs]; exact ⟨by decide, by decide, trivial, fun _ _ _ h => by cases h⟩
 · have e : ((32 : UInt8), (41 : UInt8), ([41] : Qa)) = (x, y, v) := Option.some.inj h; injection e with e1 e2; injection e2 with e2 e3; subst e1 e2 e3; have hs : stP mpN 10 0 st0 (prN.take 4) (mpN (32 : UInt8).toNat) = .tab [(58, [58], 10), (44, [44], 8), (46, [46], 6)] := rfl; rw [hs]; refine ⟨by decide, by decide, fun y0 v0 q0 h => ?_, fun _ _ _ h => by cases h⟩; simp only [List.mem_cons, List.not_mem_nil, or_false, Prod.mk.injEq] at h; rcases h with ⟨rfl, -⟩ | ⟨rfl, -⟩ | ⟨rfl, -⟩ <;> decide
theorem qi4 : qef mpN 6 stN where
 inj a b ha hab := by
  rw [<- Cp] at ha hab; have h := qbm sumN.symm _ _ ha hab; have := congrArg UInt8.ofNat h; simpa using this
 pre m y v q h := by
  by_cases h0 : m = 0
  · subst h0; rw [qe8] at h; cases h; try omega
  by_cases h1 : m = 1
  · subst h1; rw [qe7] at h; cases h; try omega
  rw [Sy m h0 h1] at h; cases h
 tab m L h := by
  by_cases h0 : m = 0
  · subst h0; rw [qe8] at h; cases h; refine ⟨fun y v q h => ?_, fun y v q v' q' h h' => ?_⟩
    · simp only [List.mem_cons, List.not_mem_nil, or_false, Prod.mk.injEq] at h; rcases h with ⟨rfl, rfl, rfl⟩ | ⟨rfl, rfl, rfl⟩ | ⟨rfl, rfl, rfl⟩ | ⟨rfl, rfl, rfl⟩ <;> exact ⟨by omega, by omega, by decide⟩
    · simp only [List.mem_cons, List.not_mem_nil, or_false, Prod.mk.injEq] at h h'; rcases h with ⟨rfl, rfl, rfl⟩ | ⟨rfl, rfl, rfl⟩ | ⟨rfl, rfl, rfl⟩ | ⟨rfl, rfl, rfl⟩ <;> rcases h' with ⟨e, rfl, rfl⟩ | ⟨e, rfl, rfl⟩ | ⟨e, rfl, rfl⟩ | ⟨e, rfl, rfl⟩ <;> first | rfl | exact absurd e (by decide)
  by_cases h1 : m = 1
  · subst h1; rw [qe7] at h; cases h
  rw [Sy m h0 h1] at h; cases h
theorem qbl (x : UInt8) (m b : Nat) (hb : mpN b = m) (hm : m < 6) (cR : b < 256) (h : mpN x.toNat = m) : x = UInt8.ofNat b := by
 have e := qi4.inj x (UInt8.ofNat b) (by rw [h]; exact hm) (by rw [h, UInt8.toNat_ofNat', Nat.mod_eq_of_lt cR, hb]); exact e
theorem lookN (s : Qa) : Z0 mpN 6 stN s = (Vn [40] [58, 44, 46, 41] s).map fun b => [b] := by
 match s with
 | [] => rfl
 | [x] => rfl
 | x :: y :: r =>
   by_cases aX : x = 32
   · subst aX; simp only [Z0, Vn]; rw [show mpN (32 : UInt8).toNat = 0 from rfl, qe8, if_pos (by omega)]
     by_cases cH : y = 58
     · subst cH; rfl
     by_cases cJ : y = 44
     · subst cJ; rfl
     by_cases cI : y = 46
     · subst cI; rfl
     by_cases aT : y = 41
     · subst aT; rfl
     have dN : ¬ 58 = y := fun e => cH e.symm; have dP : ¬ 44 = y := fun e => cJ e.symm; have dO : ¬ 46 = y := fun e => cI e.symm; have cF : ¬ 41 = y := fun e => aT e.symm; simp [cH, dN, cJ, dP, cI, dO, aT, cF]
   by_cases aW : x = 40
   · subst aW; simp only [Z0, Vn]; rw [show mpN (40 : UInt8).toNat = 1 from rfl, qe7, if_pos (by omega)]
     by_cases aM : y = 32
     · subst aM; rfl
     have aZ : ¬ 32 = y := fun e => aM e.symm; simp [aM, aZ]
   have cN : Z0 mpN 6 stN (x :: y :: r) = none := by
    simp only [Z0]
    split
    · rw [Sy (mpN x.toNat) (fun e => aX (qbl x 0 32 rfl (by decide) (by decide) e)) (fun e => aW (qbl x 1 40 rfl (by decide) (by decide) e))]
    · rfl
   rw [cN]; simp [Vn, aX, aW]
def prS : List Pr := [(40, 32, [40]), (32, 41, [41]), (91, 32, [91]), (32, 93, [93])]
def mpS (k : Nat) : Nat := if k = 32 then 0 else if k = 40 then 1 else if k = 41 then 2 else if k = 91 then 3 else if k = 93 then 4 else 5
theorem sumS : sumF (Jf (Jh prS)) 256 = 5 := by decide +kernel
theorem qdd : ∀ k, k < 256 -> mpF (Jf (Jh prS)) 5 k = mpS k := by
 have h : (List.range 256).all (fun k => mpF (Jf (Jh prS)) 5 k == mpS k) = true := by decide +kernel
 intro k hk; rw [List.all_eq_true] at h; simpa using h k (List.mem_range.2 hk)
theorem Co : mpF (Jf (Jh prS)) 5 = mpS := by
 funext k
 by_cases hk : k < 256
 · exact qdd k hk
 · have e : Jf (Jh prS) k = 0 := by
     rcases Nat.eq_zero_or_pos (Jf (Jh prS) k) with h | h
     · exact h
     · exact absurd (Mh (Nat.pos_iff_ne_zero.1 h)) hk
   unfold mpF mpS; rw [if_pos e, if_neg (by omega), if_neg (by omega), if_neg (by omega), if_neg (by omega), if_neg (by omega)]
def stS : Nat -> Sub := stP mpS 8 0 st0 prS
theorem qe5 : stS 0 = .tab [(41, [41], 6), (93, [93], 2)] := rfl
theorem qe4 : stS 1 = .pre 32 [40] 8 := rfl
theorem qe3 : stS 3 = .pre 32 [91] 4 := rfl
theorem Sx (m : Nat) (h0 : m ≠ 0) (h1 : m ≠ 1) (h3 : m ≠ 3) : stS m = .no := by
 simp [stS, prS, stP, I3, st0, mpS, h0, h1, h3]
theorem okPS : okP mpS 5 8 prS := by
 intro i x y v h; have hi : i < 4 := (List.getElem?_eq_some_iff.1 h).1; have hc : i = 0 \/ i = 1 \/ i = 2 \/ i = 3 := by omega
 rcases hc with rfl | rfl | rfl | rfl
 · have e : ((40 : UInt8), (32 : UInt8), ([40] : Qa)) = (x, y, v) := Option.some.inj h; injection e with e1 e2; injection e2 with e2 e3; subst e1 e2 e3; have hs : stP mpS 8 0 st0 (prS.take 0) (mpS (40 : UInt8).toNat) = .no := rfl; rw [hs]; exact ⟨by decide, by decide, trivial, fun _ _ _ h => by cases h⟩
 · have e : ((32 : UInt8), (41 : UInt8), ([41] : Qa)) = (x, y, v) := Option.some.inj h; injection e with e1 e2; injection e2 with e2 e3; subst e1 e2 e3; have hs : stP mpS 8 0 st0 (prS.take 1) (mpS (32 : UInt8).toNat) = .no := rfl; rw [hs]; exact ⟨by decide, by decide, trivial, fun _ _ _ h => by cases h⟩
 · have e : ((91 : UInt8), (32 : UInt8), ([91] : Qa)) = (x, y, v) := Option.some.inj h; injection e with e1 e2; injection e2 with e2 e3; subst e1 e2 e3; have hs : stP mpS 8 0 st0 (prS.take 2) (mpS (91 : UInt8).toNat) = .no := rfl; rw [hs]; exact ⟨by decide, by decide, trivial, fun _ _ _ h => by cases h⟩
 · have e : ((32 : UInt8), (93 : UInt8), ([93] : Qa)) = (x, y, v) := Option.some.inj h; injection e with e1 e2; injection e2 with e2 e3; subst e1 e2 e3; have hs : stP mpS 8 0 st0 (prS.take 3) (mpS (32 : UInt8).toNat) = .pre 41 [41] 6 := rfl; rw [hs]; exact ⟨by decide, by decide, ⟨by decide, by decide⟩, fun _ _ _ h => by cases h; decide⟩
theorem qi3 : qef mpS 5 stS where
 inj a b ha hab := by
  rw [<- Co] at ha hab; have h := qbm sumS.symm _ _ ha hab; have := congrArg UInt8.ofNat h; simpa using this
 pre m y v q h := by
  by_cases h0 : m = 0
  · subst h0; rw [qe5] at h; cases h; try omega
  by_cases h1 : m = 1
  · subst h1; rw [qe4] at h; cases h; try omega
  by_cases h3 : m = 3
  · subst h3; rw [qe3] at h; cases h; try omega
  rw [Sx m h0 h1 h3] at h; cases h
 tab m L h := by
  by_cases h0 : m = 0
  · subst h0; rw [qe5] at h; cases h; refine ⟨fun y v q h => ?_, fun y v q v' q' h h' => ?_⟩
    · simp only [List.mem_cons, List.not_mem_nil, or_false, Prod.mk.injEq] at h; rcases h with ⟨rfl, rfl, rfl⟩ | ⟨rfl, rfl, rfl⟩ <;> exact ⟨by omega, by omega, by decide⟩
    · simp only [List.mem_cons, List.not_mem_nil, or_false, Prod.mk.injEq] at h h'; rcases h with ⟨rfl, rfl, rfl⟩ | ⟨rfl, rfl, rfl⟩ <;> rcases h' with ⟨e, rfl, rfl⟩ | ⟨e, rfl, rfl⟩ <;> first | rfl | exact absurd e (by decide)
  by_cases h1 : m = 1
  · subst h1; rw [qe4] at h; cases h
  by_cases h3 : m = 3
  · subst h3; rw [qe3] at h; cases h
  rw [Sx m h0 h1 h3] at h; cases h
theorem Cn (x : UInt8) (m b : Nat) (hb : mpS b = m) (hm : m < 5) (cR : b < 256) (h : mpS x.toNat = m) : x = UInt8.ofNat b := by
 have e := qi3.inj x (UInt8.ofNat b) (by rw [h]; exact hm) (by rw [h, UInt8.toNat_ofNat', Nat.mod_eq_of_lt cR, hb]); exact e
theorem lookS (s : Qa) : Z0 mpS 5 stS s = (Vn [40, 91] [41, 93] s).map fun b => [b] := by
 match s with
 | [] => rfl
 | [x] => rfl
 | x :: y :: r =>
   by_cases aX : x = 32
   · subst aX; simp only [Z0, Vn]; rw [show mpS (32 : UInt8).toNat = 0 from rfl, qe5, if_pos (by omega)]
     by_cases aT : y = 41
     · subst aT; rfl
     by_cases cG : y = 93
     · subst cG; rfl
     have cF : ¬ 41 = y := fun e => aT e.symm; have dM : ¬ 93 = y := fun e => cG e.symm; simp [aT, cF, cG, dM]
   by_cases aW : x = 40
   · subst aW; simp only [Z0, Vn]; rw [show mpS (40 : UInt8).toNat = 1 from rfl, qe4, if_pos (by omega)]
     by_cases aM : y = 32
     · subst aM; rfl
     have aZ : ¬ 32 = y := fun e => aM e.symm; simp [aM, aZ]
   by_cases cS : x = 91
   · subst cS; simp only [Z0, Vn]; rw [show mpS (91 : UInt8).toNat = 3 from rfl, qe3, if_pos (by omega)]
     by_cases aM : y = 32
     · subst aM; rfl
     have aZ : ¬ 32 = y := fun e => aM e.symm; simp [aM, aZ]
   have cN : Z0 mpS 5 stS (x :: y :: r) = none := by
    simp only [Z0]
    split
    · rw [Sx (mpS x.toNat) (fun e => aX (Cn x 0 32 rfl (by decide) (by decide) e)) (fun e => aW (Cn x 1 40 rfl (by decide) (by decide) e)) (fun e => cS (Cn x 3 91 rfl (by decide) (by decide) e))]
    · rfl
   rw [cN]; simp [Vn, aX, aW, cS]
end
section
def Sh (w : Qa) : Prop := w.length <= 60
theorem Q8 {w : Qa} (h : w.length <= 60) : Sh w := h
theorem Y1 {n : Nat} (h : n <= 1000000) : Sh (dec n) := by
 have := (Nc 7 n (by omega) (by omega)).2.2.2; unfold Sh; omega
theorem I2 : ∀ {ks : List Qb}, Ze ks = true -> ∀ k ∈ ks, Jn k = true
 | [], _, k, hk => by simp at hk
 | a :: r, h, k, hk => by
   rw [Ze, Bool.and_eq_true] at h; rcases List.mem_cons.1 hk with rfl | hk
   · exact h.1
   · exact I2 h.2 k hk
theorem I0 : ∀ {ks : List Qb}, Jz ks = true -> ∀ k ∈ ks, Ja k = true
 | [], _, k, hk => by simp at hk
 | a :: r, h, k, hk => by
   rw [Jz, Bool.and_eq_true] at h; rcases List.mem_cons.1 hk with rfl | hk
   · exact h.1
   · exact I0 h.2 k hk
theorem Ob : ∀ {ks : List Qb} {k : Qb} {x : Qa}, k ∈ ks -> x ∈ Ql k -> x ∈ Qy ks
 | [], k, x, hk, _ => by simp at hk
 | a :: r, k, x, hk, hx => by
   rw [Qy]; rcases List.mem_cons.1 hk with rfl | hk
   · exact List.mem_append_left _ hx
   · exact List.mem_append_right _ (Ob hk hx)
theorem Oa : ∀ {ks : List Qb} {k : Qb} {x : Qa}, k ∈ ks -> x ∈ Qo k -> x ∈ Qz ks
 | [], k, x, hk, _ => by simp at hk
 | a :: r, k, x, hk, hx => by
   rw [Qz]; rcases List.mem_cons.1 hk with rfl | hk
   · exact List.mem_append_left _ hx
   · exact List.mem_append_right _ (Oa hk hx)
theorem qfc : ∀ (s : Nat) (t : Qb), t.size <= s -> Jn t = true -> (∀ x ∈ Ql t, Sh x) -> ∀ w ∈ wF t, Sh w
 | 0, t, h, _, _ => by have := Zj t; omega
 | s + 1, .mk op name cmp n ks, hs, aI, hn => by
   rw [Jn] at aI; simp only [Bool.and_eq_true] at aI; obtain ⟨⟨⟨h1, h2⟩, h3⟩, h4⟩ := aI; rw [Qb.size] at hs; have hk := I2 h4; have aU : ∀ k ∈ ks, ∀ x ∈ Ql k, Sh x := fun k hm x hx => hn x (by rw [Ql]; exact List.mem_append_right _ (Ob hm hx))
   have ih : ∀ b, ∀ a ∈ wFs b ks, ∀ w ∈ a, Sh w := fun b a ha w hw => by
    rw [Wg] at ha; obtain ⟨k, hm, rfl⟩ := List.mem_map.1 ha; rcases O6 hw with rfl | rfl | hw
    · exact Q8 (by decide)
    · exact Q8 (by decide)
    · exact qfc s k (by have := Zk hm; omega) (hk k hm) (aU k hm) w hw
   intro w hw; rw [wF] at hw
   by_cases o1 : op = 1
   · rw [if_pos o1] at hw; rw [List.mem_singleton.1 hw]; exact Q8 (by decide)
   by_cases o2 : op = 2
   · rw [if_neg o1, if_pos o2] at hw; rw [List.mem_singleton.1 hw]; exact Q8 (by decide)
   by_cases o3 : op = 3
   · rw [if_neg o1, if_neg o2, if_pos o3] at hw; rw [if_pos o3] at h1; simp only [Bool.and_eq_true, decide_eq_true_eq] at h1; simp only [List.mem_cons, List.not_mem_nil, or_false] at hw; rcases hw with rfl | rfl | rfl
     · exact hn _ (by rw [Ql, if_pos (Or.inl o3)]; simp)
     · have : cmp = 1 \/ cmp = 2 \/ cmp = 3 \/ cmp = 4 \/ cmp = 5 \/ cmp = 6 := by omega
       rcases this with rfl | rfl | rfl | rfl | rfl | rfl <;> exact Q8 (by decide)
     · exact Y1 h1.2
   by_cases o4 : op = 4
   · rw [if_neg o1, if_neg o2, if_neg o3, if_pos o4] at hw; rw [List.mem_singleton.1 hw]; exact hn _ (by rw [Ql, if_pos (Or.inr o4)]; simp)
   by_cases o5 : op = 5
   · rw [if_neg o1, if_neg o2, if_neg o3, if_neg o4, if_pos o5] at hw; rcases List.mem_cons.1 hw with rfl | hw
     · exact Q8 (by decide)
     · obtain ⟨a, ha, hw⟩ := List.mem_flatten.1 hw; exact ih false a ha w hw
   by_cases o6 : op = 6
   · rw [if_neg o1, if_neg o2, if_neg o3, if_neg o4, if_neg o5, if_pos o6] at hw; rcases Kc hw with rfl | ⟨a, ha, hw⟩
     · exact Q8 (by decide)
     · exact ih false a ha w hw
   by_cases o7 : op = 7
   · rw [if_neg o1, if_neg o2, if_neg o3, if_neg o4, if_neg o5, if_neg o6, if_pos o7] at hw; rcases Kc hw with rfl | ⟨a, ha, hw⟩
     · exact Q8 (by decide)
     · exact ih true a ha w hw
   · rw [if_neg o1, if_neg o2, if_neg o3, if_neg o4, if_neg o5, if_neg o6, if_neg o7] at hw; simp at hw
theorem Cc : ∀ (s : Nat) (t : Qb), t.size <= s -> Ja t = true -> (∀ x ∈ Qo t, Sh x) -> ∀ w ∈ wS t, Sh w
 | 0, t, h, _, _ => by have := Zj t; omega
 | s + 1, .mk op name cmp n ks, hs, aI, hn => by
   rw [Ja] at aI; simp only [Bool.and_eq_true] at aI; obtain ⟨⟨⟨h1, h2⟩, h3⟩, h4⟩ := aI; rw [Qb.size] at hs; have hk := I0 h4; have aU : ∀ k ∈ ks, ∀ x ∈ Qo k, Sh x := fun k hm x hx => hn x (by rw [Qo]; exact List.mem_append_right _ (Oa hm hx))
   have ih : ∀ b, ∀ a ∈ wSs b ks, ∀ w ∈ a, Sh w := fun b a ha w hw => by
    rw [We] at ha; obtain ⟨k, hm, rfl⟩ := List.mem_map.1 ha; rcases O6 hw with rfl | rfl | hw
    · exact Q8 (by decide)
    · exact Q8 (by decide)
    · exact Cc s k (by have := Zk hm; omega) (hk k hm) (aU k hm) w hw
   intro w hw; rw [wS] at hw
   by_cases o1 : op = 1
   · rw [if_pos o1] at hw; rw [List.mem_singleton.1 hw]; exact Q8 (by decide)
   by_cases o2 : op = 2
   · rw [if_neg o1, if_pos o2] at hw; rw [List.mem_singleton.1 hw]; exact Q8 (by decide)
   by_cases o3 : op = 3
   · rw [if_neg o1, if_neg o2, if_pos o3] at hw; have cO : n <= 1000000 := by have := h1.2; rw [if_pos o3] at this; simpa using this
     simp only [List.mem_cons, List.not_mem_nil, or_false] at hw; rcases hw with rfl | rfl
     · exact Q8 (by decide)
     · exact Y1 cO
   by_cases o4 : op = 4 \/ op = 5 \/ op = 6 \/ op = 7
   · rw [if_neg o1, if_neg o2, if_neg o3, if_pos o4] at hw; simp only [List.mem_cons, List.not_mem_nil, or_false] at hw; rcases hw with rfl | rfl
     · rcases o4 with rfl | rfl | rfl | rfl <;> exact Q8 (by decide)
     · exact hn _ (by rw [Qo, if_pos o4]; simp)
   by_cases o8 : op = 8
   · rw [if_neg o1, if_neg o2, if_neg o3, if_neg o4, if_pos o8] at hw; rcases Kc hw with rfl | ⟨a, ha, hw⟩
     · exact Q8 (by decide)
     · exact ih false a ha w hw
   by_cases o9 : op = 9
   · rw [if_neg o1, if_neg o2, if_neg o3, if_neg o4, if_neg o8, if_pos o9] at hw; rcases Kc hw with rfl | ⟨a, ha, hw⟩
     · exact Q8 (by decide)
     · exact ih true a ha w hw
   · rw [if_neg o1, if_neg o2, if_neg o3, if_neg o4, if_neg o8, if_neg o9] at hw; simp at hw
theorem Yr {b : Bool} {k : Qa} {l : List Qa} (hk : Sh k) (hl : ∀ w ∈ l, Sh w) : ∀ w ∈ Qr b k l, Sh w := by
 unfold Qr; intro w hw
 split at hw
 · rcases List.mem_cons.1 hw with rfl | hw
   · exact hk
   · exact hl w hw
 · simp at hw
theorem sh_P {p : Qf} (hp : Y8 p) (hn : ∀ x ∈ Q7 p, Sh x) : ∀ w ∈ wP p, Sh w := by
 intro w hw; unfold wP Wt Ws Uc Ub at hw; simp only [List.mem_cons, List.mem_append, List.not_mem_nil, or_false] at hw; rcases hw with rfl | rfl | rfl | hw | hw | hw | hw | hw | hw | rfl
 · have hr := hp.rank; have : p.rank = 1 \/ p.rank = 2 \/ p.rank = 3 \/ p.rank = 4 := by omega
   rcases this with h | h | h | h <;> rw [h] <;> exact Q8 (by decide)
 · exact hn _ (by simp [Q7])
 · exact Q8 (by decide)
 · unfold Wi at hw
   split at hw
   · simp only [List.mem_cons, List.not_mem_nil, or_false] at hw; rcases hw with rfl | rfl
     · exact Q8 (by decide)
     · exact hn _ (by simp [Q7])
   · simp only [List.mem_cons, List.not_mem_nil, or_false] at hw; rcases hw with rfl | rfl | rfl | rfl
     · exact Q8 (by decide)
     · exact hn _ (by simp [Q7])
     · exact Q8 (by decide)
     · exact Y1 hp.value
 · exact Yr (Q8 (by decide)) (qfc _ _ (lR _) hp.cond (fun x hx => hn x (by simp [Q7, hx]))) w hw
 · unfold Kw at hw
   split at hw
   · simp at hw
   · rcases List.mem_cons.1 hw with rfl | hw
     · exact Q8 (by decide)
     · rcases Kc hw with rfl | ⟨a, ha, hw⟩
       · exact Q8 (by decide)
       · obtain ⟨s, hs, rfl⟩ := List.mem_map.1 ha; rw [List.mem_singleton.1 hw]; exact hn _ (by simp [Q7, hs])
 · exact Yr (Q8 (by decide)) (Cc _ _ (lR _) hp.beg (fun x hx => hn x (by simp [Q7, hx]))) w hw
 · exact Yr (Q8 (by decide)) (Cc _ _ (lR _) hp.fin (fun x hx => hn x (by simp [Q7, hx]))) w hw
 · exact Yr (Q8 (by decide)) (Cc _ _ (lR _) hp.aga (fun x hx => hn x (by simp [Q7, hx]))) w hw
 · exact Q8 (by decide)
namespace So
theorem qfc : ∀ (s : Nat) (t : Qb), t.size <= s -> t.size <= 200 -> Jn t = true -> (∀ x ∈ Go.Proofs.YtbicmjmcdnkjhaaGreatDoor.Ql t, Sh x) -> ∀ w ∈ wF t, Sh w
 | 0, t, h, _, _, _ => by have := Zj t; omega
 | s + 1, .mk op name cmp n ks, hs, h200, aI, hn => by
   rw [Jn] at aI; simp only [Bool.and_eq_true] at aI; obtain ⟨⟨⟨h1, h2⟩, h3⟩, h4⟩ := aI; rw [Qb.size] at hs h200; have hk := I2 h4; have aU : ∀ k ∈ ks, ∀ x ∈ Go.Proofs.YtbicmjmcdnkjhaaGreatDoor.Ql k, Sh x := fun k hm x hx => hn x (by rw [Go.Proofs.YtbicmjmcdnkjhaaGreatDoor.Ql]; exact List.mem_append_right _ (Ob hm hx)); have eA := Yf ks; intro w hw; rw [wF, Hg, List.mem_append] at hw; rcases hw with hw | hw
   · obtain ⟨k, hm, hw⟩ := List.mem_flatMap.1 hw; exact qfc s k (by have := Zk hm; omega) (by have := Zk hm; omega) (hk k hm) (aU k hm) w hw
   by_cases o1 : op = 1
   · rw [if_pos o1] at hw; rw [List.mem_singleton.1 hw]; exact Q8 (by decide)
   by_cases o2 : op = 2
   · rw [if_neg o1, if_pos o2] at hw; rw [List.mem_singleton.1 hw]; exact Q8 (by decide)
   by_cases o3 : op = 3
   · rw [if_neg o1, if_neg o2, if_pos o3] at hw; rw [if_pos o3] at h1; simp only [Bool.and_eq_true, decide_eq_true_eq] at h1; simp only [List.mem_cons, List.not_mem_nil, or_false] at hw; rcases hw with rfl | rfl | rfl
     · exact hn _ (by rw [Go.Proofs.YtbicmjmcdnkjhaaGreatDoor.Ql, if_pos (Or.inl o3)]; simp)
     · exact Y1 h1.2
     · have : cmp = 1 \/ cmp = 2 \/ cmp = 3 \/ cmp = 4 \/ cmp = 5 \/ cmp = 6 := by omega
       rcases this with rfl | rfl | rfl | rfl | rfl | rfl <;> exact Q8 (by decide)
   by_cases o4 : op = 4
   · rw [if_neg o1, if_neg o2, if_neg o3, if_pos o4] at hw; simp only [List.mem_cons, List.not_mem_nil, or_false] at hw; rcases hw with rfl | rfl
     · exact hn _ (by rw [Go.Proofs.YtbicmjmcdnkjhaaGreatDoor.Ql, if_pos (Or.inr o4)]; simp)
     · exact Q8 (by decide)
   by_cases o5 : op = 5
   · rw [if_neg o1, if_neg o2, if_neg o3, if_neg o4, if_pos o5] at hw; rw [List.mem_singleton.1 hw]; exact Q8 (by decide)
   by_cases o6 : op = 6
   · rw [if_neg o1, if_neg o2, if_neg o3, if_neg o4, if_neg o5, if_pos o6] at hw; simp only [List.mem_cons, List.not_mem_nil, or_false] at hw; rcases hw with rfl | rfl
     · exact Q8 (by decide)
     · exact Y1 (by omega)
   by_cases o7 : op = 7
   · rw [if_neg o1, if_neg o2, if_neg o3, if_neg o4, if_neg o5, if_neg o6, if_pos o7] at hw; simp only [List.mem_cons, List.not_mem_nil, or_false] at hw; rcases hw with rfl | rfl
     · exact Q8 (by decide)
     · exact Y1 (by omega)
   · rw [if_neg o1, if_neg o2, if_neg o3, if_neg o4, if_neg o5, if_neg o6, if_neg o7] at hw; simp at hw
theorem Cc : ∀ (s : Nat) (t : Qb), t.size <= s -> t.size <= 200 -> Ja t = true -> (∀ x ∈ Qo t, Sh x) -> ∀ w ∈ wS t, Sh w
 | 0, t, h, _, _, _ => by have := Zj t; omega
 | s + 1, .mk op name cmp n ks, hs, h200, aI, hn => by
   rw [Ja] at aI; simp only [Bool.and_eq_true] at aI; obtain ⟨⟨⟨h1, h2⟩, h3⟩, h4⟩ := aI; rw [Qb.size] at hs h200; have hk := I0 h4; have aU : ∀ k ∈ ks, ∀ x ∈ Qo k, Sh x := fun k hm x hx => hn x (by rw [Qo]; exact List.mem_append_right _ (Oa hm hx)); have eA := Yf ks; intro w hw; rw [wS, He, List.mem_append] at hw; rcases hw with hw | hw
   · obtain ⟨k, hm, hw⟩ := List.mem_flatMap.1 hw; exact Cc s k (by have := Zk hm; omega) (by have := Zk hm; omega) (hk k hm) (aU k hm) w hw
   by_cases o1 : op = 1
   · rw [if_pos o1] at hw; rw [List.mem_singleton.1 hw]; exact Q8 (by decide)
   by_cases o2 : op = 2
   · rw [if_neg o1, if_pos o2] at hw; rw [List.mem_singleton.1 hw]; exact Q8 (by decide)
   by_cases o3 : op = 3
   · rw [if_neg o1, if_neg o2, if_pos o3] at hw; have cO : n <= 1000000 := by have := h1.2; rw [if_pos o3] at this; simpa using this
     simp only [List.mem_cons, List.not_mem_nil, or_false] at hw; rcases hw with rfl | rfl
     · exact Y1 cO
     · exact Q8 (by decide)
   by_cases o4 : op = 4 \/ op = 5 \/ op = 6 \/ op = 7
   · rw [if_neg o1, if_neg o2, if_neg o3, if_pos o4] at hw; simp only [List.mem_cons, List.not_mem_nil, or_false] at hw; rcases hw with rfl | rfl
     · exact hn _ (by rw [Qo, if_pos o4]; simp)
     · rcases o4 with rfl | rfl | rfl | rfl <;> exact Q8 (by decide)
   by_cases o8 : op = 8
   · rw [if_neg o1, if_neg o2, if_neg o3, if_neg o4, if_pos o8] at hw; simp only [List.mem_cons, List.not_mem_nil, or_false] at hw; rcases hw with rfl | rfl
     · exact Q8 (by decide)
     · exact Y1 (by omega)
   by_cases o9 : op = 9
   · rw [if_neg o1, if_neg o2, if_neg o3, if_neg o4, if_neg o8, if_pos o9] at hw; simp only [List.mem_cons, List.not_mem_nil, or_false] at hw; rcases hw with rfl | rfl
     · exact Q8 (by decide)
     · exact Y1 (by omega)
   · rw [if_neg o1, if_neg o2, if_neg o3, if_neg o4, if_neg o8, if_neg o9] at hw; simp at hw
theorem qa4 {l : List Qa} (h : ∀ w ∈ l, Sh w) : ∀ w ∈ brW l, Sh w := by
 intro w hw; unfold brW at hw; simp only [List.mem_cons, List.mem_append, List.not_mem_nil, or_false] at hw; rcases hw with rfl | hw | rfl
 · exact Q8 (by decide)
 · exact h w hw
 · exact Q8 (by decide)
theorem sh_P {p : Qf} (hp : Y8 p) (hn : ∀ x ∈ Q7 p, Sh x) : ∀ w ∈ wP p, Sh w := by
 intro w hw; unfold wP Wt Ws Uc Ub at hw; simp only [List.mem_append] at hw; rcases hw with hw | hw | hw | hw | hw | hw | hw
 · exact Yr (Q8 (by decide)) (qa4 (qfc _ _ (lR _) (Ky hp.condS) hp.cond (fun x hx => hn x (by simp [Q7, hx])))) w hw
 · unfold Wi at hw
   split at hw
   · simp only [List.mem_cons, List.not_mem_nil, or_false] at hw; rcases hw with rfl | rfl
     · exact Q8 (by decide)
     · exact hn _ (by simp [Q7])
   · simp only [List.mem_cons, List.not_mem_nil, or_false] at hw; rcases hw with rfl | rfl | rfl | rfl
     · exact Q8 (by decide)
     · exact hn _ (by simp [Q7])
     · exact Q8 (by decide)
     · exact Y1 hp.value
 · unfold Kw at hw
   split at hw
   · simp at hw
   · simp only [List.mem_cons, List.mem_append, List.not_mem_nil, or_false] at hw; rcases hw with rfl | rfl | hw | rfl
     · exact Q8 (by decide)
     · exact Q8 (by decide)
     · exact hn _ (by simp [Q7, hw])
     · exact Q8 (by decide)
 · exact Yr (Q8 (by decide)) (qa4 (Cc _ _ (lR _) (Ky hp.begS) hp.beg (fun x hx => hn x (by simp [Q7, hx])))) w hw
 · exact Yr (Q8 (by decide)) (qa4 (Cc _ _ (lR _) (Ky hp.finS) hp.fin (fun x hx => hn x (by simp [Q7, hx])))) w hw
 · exact Yr (Q8 (by decide)) (qa4 (Cc _ _ (lR _) (Ky hp.agaS) hp.aga (fun x hx => hn x (by simp [Q7, hx])))) w hw
 · unfold C1 at hw; simp only [List.mem_cons, List.not_mem_nil, or_false] at hw; rcases hw with rfl | rfl | rfl | rfl
   · exact Q8 (by decide)
   · have hr := hp.rank; have : p.rank = 1 \/ p.rank = 2 \/ p.rank = 3 \/ p.rank = 4 := (by omega)
     rcases this with h | h | h | h <;> rw [h] <;> exact Q8 (by decide)
   · exact hn _ (by simp [Q7])
   · exact Q8 (by decide)
end So
theorem Mr : ∀ l : List Qa, (∀ w ∈ l, Sh w) -> (Ju l).length <= 61 * l.length
 | [], _ => by simp [Ju]
 | [w], h => by have := h w (by simp); unfold Sh at this; simp [Ju]; omega
 | w :: w' :: r, h => by
   have h1 := h w (by simp); have h2 := Mr (w' :: r) (fun x hx => h x (by simp [hx])); unfold Sh at h1; simp only [Ju, List.length_append, List.length_cons] at h2 ⊢; omega
open Go.RowKit
end
set_option maxRecDepth 20000
set_option maxHeartbeats 2000000
section
open Go.RowKit
theorem qgu {α : Type} [BEq α] [LawfulBEq α] {l m : List α} {k : Nat} {x y : α} (hx : l[k]? = some x) (hy : m[k]? = some y) : (l.drop k == m.drop k) = (x == y && l.drop (k + 1) == m.drop (k + 1)) := by
 obtain ⟨h1, rfl⟩ := List.getElem?_eq_some_iff.1 hx; obtain ⟨h2, rfl⟩ := List.getElem?_eq_some_iff.1 hy; rw [List.drop_eq_getElem_cons h1, List.drop_eq_getElem_cons h2]; rfl
theorem qfv (l m : List (List UInt8)) (A B : Option Addr) (c d : Nat) (w : World) (hr : RdS w A l) (hs : RdS w B m) (hl : l.length <= 1000000) :
 Calls Tryz.prog 49 #[.slice A l.length c, .slice B m.length d] w fun e w' => e = .returned (.bool (l == m)) /\ Below w.heap.size w w' := by
 have HR := Hi hr; have HS := Hi hs; clear hr hs
 by_cases hn : l.length = m.length
 case neg =>
  have hd : ((l.length : Int) != (m.length : Int)) = true := by simp; omega
  have bC : (l == m) = false := by
   rw [Bool.eq_false_iff]; intro h; have : l = m := by simpa using h
   exact hn (by rw [this])
  rw [bC]; clear bC HR HS; go_enter Tryz.func49, Tryz.ntmps49
  go_wp2_with fail; go_ret; exact ⟨rfl, Below.refl _ _⟩
 have hd : ((l.length : Int) != (m.length : Int)) = false := by simp; omega
 have HN := Hi hn; clear hn; go_enter Tryz.func49, Tryz.ntmps49
 go_wp2_with fail; go_loopw [5] (fun v wr => ∃ k : Nat, k <= l.length /\ v = .int .i64 k /\ (l == m) = (l.drop k == m.drop k) /\ Below w.heap.size w wr) (fun v _ => l.length - (intOf v).toNat)
 case atStart => exact ⟨0, Nat.zero_le _, rfl, rfl, Below.refl _ _⟩
 case round =>
  obtain ⟨k, hk, rfl, dD, hb⟩ := hrel; have cZ := Hi dD; have HB := Hi hb; clear hb dD
  by_cases dC : k < l.length
  · obtain ⟨x, hx⟩ := gLt dC; have cP : k < m.length := by have := HN.out; omega
    obtain ⟨y, hy⟩ := gLt cP; have cE := Hi (qgu hx hy); obtain ⟨g1, r1, rfl, eD, dF⟩ := HR.out.item hx; obtain ⟨g2, r2, rfl, eC, dE⟩ := HS.out.item hy; have z1 : wr.cell? ⟨g1, r1 + k, none⟩ = some (vs x) := (HB.out.cell (p := ⟨g1, r1 + k, none⟩) eD).trans dF; have z2 : wr.cell? ⟨g2, r2 + k, none⟩ = some (vs y) := (HB.out.cell (p := ⟨g2, r2 + k, none⟩) eC).trans dE; have eJ : (k : Int) < l.length := by omega
    have eI : (k : Int) < m.length := by omega
    have eK : (0 : Int) <= k := by omega
    clear dF dE hx hy; cases bA : (x == y) with
    | true =>
      have e : x = y := by simpa using bA
      subst e; rw [bA] at cE; clear bA; go_wp2_with fail; go_quiet (fail)
      go_wp2_with fail; exact ⟨⟨k + 1, by omega, by go_num, by rw [cZ.out, cE.out, Bool.true_and], ⟨HB.out.os, HB.out.tape, HB.out.output, HB.out.size, HB.out.block⟩⟩, by simp [intOf]; omega⟩
    | false =>
      have eH : (x != y) = true := by rw [bne, bA]; rfl
      rw [bA] at cE; go_wp2_with fail; go_quiet (fail)
      go_wp2_with fail; go_ret; exact ⟨by rw [cZ.out, cE.out, Bool.false_and]; rfl, ⟨HB.out.os, HB.out.tape, HB.out.output, HB.out.size, HB.out.block⟩⟩
  · have eB : k = l.length := by omega
    subst eB; have dZ : ¬ ((l.length : Nat) : Int) < l.length := by omega
    have bL : (l == m) = true := by
     rw [cZ.out, List.drop_length]; have : m.drop l.length = [] := by rw [HN.out]; exact List.drop_length
     rw [this]; rfl
    have HE := Hi bL; clear bL; go_wp2_with fail; go_ret; exact ⟨by rw [HE.out]; rfl, HB.out⟩
end
set_option maxRecDepth 20000
set_option maxHeartbeats 8000000
section
open Go.RowKit
theorem Rw (P Q : Zt) (dI dH : List Value) (w : World) (h1 : Wo w dI P) (h2 : Wo w dH Q) (dY : Y2 P) (dX : Y2 Q) (dV : P.cond.size <= 1000000) (dW : P.beg.size <= 1000000) (dU : P.fin.size <= 1000000) (dT : P.aga.size <= 1000000) (dS : P.exc.length <= 1000000) :
 Calls Tryz.prog 16 #[.agg dI.toArray, .agg dH.toArray] w fun e w' => e = .returned (.bool (eqP P Q)) /\ Below w.heap.size w w' := by
 obtain ⟨aO, rank1, kind1, name1, value1, cond1, aB, cW, cU, cY⟩ := P; obtain ⟨aN, rank2, kind2, name2, value2, cond2, aA, cV, cT, cX⟩ := Q; obtain ⟨eO, A1, p1, eQ, eM, eS, rfl, -, bP, bK, bR, bN, bT⟩ := h1; obtain ⟨eN, A2, p2, eP, eL, eR, rfl, -, bO, bJ, bQ, bM, bS⟩ := h2; obtain ⟨bI, bG, bE⟩ := dY; obtain ⟨bH, bF, bD⟩ := dX; simp only at *; have TC1 := Hi bP; have TC2 := Hi bO; have TB1 := Hi bR; have TB2 := Hi bQ; have TD1 := Hi bN; have TD2 := Hi bM; have TG1 := Hi bT; have TG2 := Hi bS; have PB1 := Hi bI; have PB2 := Hi bH; have PD1 := Hi bG; have PD2 := Hi bF; have PG1 := Hi bE; have PG2 := Hi bD; obtain ⟨oC1, nC1, dC1, mC1, ksC1⟩ := cond1; obtain ⟨KC1, qC1, rfl, -, -⟩ := bP; obtain ⟨oC2, nC2, dC2, mC2, ksC2⟩ := cond2; obtain ⟨KC2, qC2, rfl, -, -⟩ := bO; obtain ⟨oB1, nB1, dB1, mB1, ksB1⟩ := cW; obtain ⟨KB1, qB1, rfl, -, -⟩ := bR; obtain ⟨oB2, nB2, dB2, mB2, ksB2⟩ := cV; obtain ⟨KB2, qB2, rfl, -, -⟩ := bQ; obtain ⟨oD1, nD1, dD1, mD1, ksD1⟩ := cU; obtain ⟨KD1, qD1, rfl, -, -⟩ := bN; obtain ⟨oD2, nD2, dD2, mD2, ksD2⟩ := cT; obtain ⟨KD2, qD2, rfl, -, -⟩ := bM; obtain ⟨oG1, nG1, dG1, mG1, ksG1⟩ := cY; obtain ⟨KG1, qG1, rfl, -, -⟩ := bT; obtain ⟨oG2, nG2, dG2, mG2, ksG2⟩ := cX; obtain ⟨KG2, qG2, rfl, -, -⟩ := bS; have E1 := Hi bK; have E2 := Hi bJ; simp only [tcX, List.cons_append, List.nil_append]; clear bK bJ bI bH bG bF bE bD; cases hid : (aO == aN) with
 | false =>
   have hE : eqP ⟨aO, rank1, kind1, name1, value1, (.mk oC1 nC1 dC1 mC1 ksC1), aB, (.mk oB1 nB1 dB1 mB1 ksB1), (.mk oD1 nD1 dD1 mD1 ksD1), (.mk oG1 nG1 dG1 mG1 ksG1)⟩ ⟨aN, rank2, kind2, name2, value2, (.mk oC2 nC2 dC2 mC2 ksC2), aA, (.mk oB2 nB2 dB2 mB2 ksB2), (.mk oD2 nD2 dD2 mD2 ksD2), (.mk oG2 nG2 dG2 mG2 ksG2)⟩ = false := by simp only [eqP, hid, Bool.false_and, Bool.and_false]
   have HE := Hi hE; clear hE; go_enter Tryz.func16, Tryz.ntmps16
   go_wp2_with fail; go_ret; exact ⟨by rw [HE.out]; rfl, ((Below.refl _ _).alloc (lR _) _).alloc (by simp) _⟩
 | true =>
 cases aQ : (rank1 == rank2) with
 | false =>
   have hE : eqP ⟨aO, rank1, kind1, name1, value1, (.mk oC1 nC1 dC1 mC1 ksC1), aB, (.mk oB1 nB1 dB1 mB1 ksB1), (.mk oD1 nD1 dD1 mD1 ksD1), (.mk oG1 nG1 dG1 mG1 ksG1)⟩ ⟨aN, rank2, kind2, name2, value2, (.mk oC2 nC2 dC2 mC2 ksC2), aA, (.mk oB2 nB2 dB2 mB2 ksB2), (.mk oD2 nD2 dD2 mD2 ksD2), (.mk oG2 nG2 dG2 mG2 ksG2)⟩ = false := by simp only [eqP, aQ, Bool.false_and, Bool.and_false]
   have HE := Hi hE; clear hE; go_enter Tryz.func16, Tryz.ntmps16
   go_wp2_with fail; go_ret; exact ⟨by rw [HE.out]; rfl, ((Below.refl _ _).alloc (lR _) _).alloc (by simp) _⟩
 | true =>
 cases aS : (kind1 == kind2) with
 | false =>
   have hE : eqP ⟨aO, rank1, kind1, name1, value1, (.mk oC1 nC1 dC1 mC1 ksC1), aB, (.mk oB1 nB1 dB1 mB1 ksB1), (.mk oD1 nD1 dD1 mD1 ksD1), (.mk oG1 nG1 dG1 mG1 ksG1)⟩ ⟨aN, rank2, kind2, name2, value2, (.mk oC2 nC2 dC2 mC2 ksC2), aA, (.mk oB2 nB2 dB2 mB2 ksB2), (.mk oD2 nD2 dD2 mD2 ksD2), (.mk oG2 nG2 dG2 mG2 ksG2)⟩ = false := by simp only [eqP, aS, Bool.false_and, Bool.and_false]
   have HE := Hi hE; clear hE; go_enter Tryz.func16, Tryz.ntmps16
   go_wp2_with fail; go_ret; exact ⟨by rw [HE.out]; rfl, ((Below.refl _ _).alloc (lR _) _).alloc (by simp) _⟩
 | true =>
 cases aR : (name1 == name2) with
 | false =>
   have hE : eqP ⟨aO, rank1, kind1, name1, value1, (.mk oC1 nC1 dC1 mC1 ksC1), aB, (.mk oB1 nB1 dB1 mB1 ksB1), (.mk oD1 nD1 dD1 mD1 ksD1), (.mk oG1 nG1 dG1 mG1 ksG1)⟩ ⟨aN, rank2, kind2, name2, value2, (.mk oC2 nC2 dC2 mC2 ksC2), aA, (.mk oB2 nB2 dB2 mB2 ksB2), (.mk oD2 nD2 dD2 mD2 ksD2), (.mk oG2 nG2 dG2 mG2 ksG2)⟩ = false := by simp only [eqP, aR, Bool.false_and, Bool.and_false]
   have HE := Hi hE; clear hE; go_enter Tryz.func16, Tryz.ntmps16
   go_wp2_with fail; go_ret; exact ⟨by rw [HE.out]; rfl, ((Below.refl _ _).alloc (lR _) _).alloc (by simp) _⟩
 | true =>
 cases aP : (value1 == value2) with
 | false =>
   have hE : eqP ⟨aO, rank1, kind1, name1, value1, (.mk oC1 nC1 dC1 mC1 ksC1), aB, (.mk oB1 nB1 dB1 mB1 ksB1), (.mk oD1 nD1 dD1 mD1 ksD1), (.mk oG1 nG1 dG1 mG1 ksG1)⟩ ⟨aN, rank2, kind2, name2, value2, (.mk oC2 nC2 dC2 mC2 ksC2), aA, (.mk oB2 nB2 dB2 mB2 ksB2), (.mk oD2 nD2 dD2 mD2 ksD2), (.mk oG2 nG2 dG2 mG2 ksG2)⟩ = false := by simp only [eqP, aP, Bool.false_and, Bool.and_false]
   have HE := Hi hE; clear hE; go_enter Tryz.func16, Tryz.ntmps16
   go_wp2_with fail; go_ret; exact ⟨by rw [HE.out]; rfl, ((Below.refl _ _).alloc (lR _) _).alloc (by simp) _⟩
 | true =>
 have hE : eqP ⟨aO, rank1, kind1, name1, value1, (.mk oC1 nC1 dC1 mC1 ksC1), aB, (.mk oB1 nB1 dB1 mB1 ksB1), (.mk oD1 nD1 dD1 mD1 ksD1), (.mk oG1 nG1 dG1 mG1 ksG1)⟩ ⟨aN, rank2, kind2, name2, value2, (.mk oC2 nC2 dC2 mC2 ksC2), aA, (.mk oB2 nB2 dB2 mB2 ksB2), (.mk oD2 nD2 dD2 mD2 ksD2), (.mk oG2 nG2 dG2 mG2 ksG2)⟩ = (aB == aA && eqX (.mk oC1 nC1 dC1 mC1 ksC1) (.mk oC2 nC2 dC2 mC2 ksC2) && eqX (.mk oB1 nB1 dB1 mB1 ksB1) (.mk oB2 nB2 dB2 mB2 ksB2) && eqX (.mk oD1 nD1 dD1 mD1 ksD1) (.mk oD2 nD2 dD2 mD2 ksD2) && eqX (.mk oG1 nG1 dG1 mG1 ksG1) (.mk oG2 nG2 dG2 mG2 ksG2)) := by simp only [eqP, hid, aQ, aS, aR, aP, Bool.true_and]
 rw [hE]; clear hE; go_enter Tryz.func16, Tryz.ntmps16
 go_wp2_with fail; have dA : Below w.heap.size w ((w.alloc (.cells #[vs aO, .int .i64 rank1, .int .i64 kind1, vs name1, .int .i64 value1, .int .i64 oC1, vs nC1, .int .i64 dC1, .int .i64 mC1, .slice KC1 ksC1.length qC1, .slice A1 aB.length p1, .int .i64 oB1, vs nB1, .int .i64 mB1, .slice KB1 ksB1.length qB1, .int .i64 oD1, vs nD1, .int .i64 mD1, .slice KD1 ksD1.length qD1, .int .i64 oG1, vs nG1, .int .i64 mG1, .slice KG1 ksG1.length qG1] 30)).alloc (.cells #[vs aN, .int .i64 rank2, .int .i64 kind2, vs name2, .int .i64 value2, .int .i64 oC2, vs nC2, .int .i64 dC2, .int .i64 mC2, .slice KC2 ksC2.length qC2, .slice A2 aA.length p2, .int .i64 oB2, vs nB2, .int .i64 mB2, .slice KB2 ksB2.length qB2, .int .i64 oD2, vs nD2, .int .i64 mD2, .slice KD2 ksD2.length qD2, .int .i64 oG2, vs nG2, .int .i64 mG2, .slice KG2 ksG2.length qG2] 30)) := ((Below.refl _ _).alloc (lR _) _).alloc (by simp) _; have HW := Hi dA; have dK := Hi (show ((w.alloc (.cells #[vs aO, .int .i64 rank1, .int .i64 kind1, vs name1, .int .i64 value1, .int .i64 oC1, vs nC1, .int .i64 dC1, .int .i64 mC1, .slice KC1 ksC1.length qC1, .slice A1 aB.length p1, .int .i64 oB1, vs nB1, .int .i64 mB1, .slice KB1 ksB1.length qB1, .int .i64 oD1, vs nD1, .int .i64 mD1, .slice KD1 ksD1.length qD1, .int .i64 oG1, vs nG1, .int .i64 mG1, .slice KG1 ksG1.length qG1] 30)).alloc (.cells #[vs aN, .int .i64 rank2, .int .i64 kind2, vs name2, .int .i64 value2, .int .i64 oC2, vs nC2, .int .i64 dC2, .int .i64 mC2, .slice KC2 ksC2.length qC2, .slice A2 aA.length p2, .int .i64 oB2, vs nB2, .int .i64 mB2, .slice KB2 ksB2.length qB2, .int .i64 oD2, vs nD2, .int .i64 mD2, .slice KD2 ksD2.length qD2, .int .i64 oG2, vs nG2, .int .i64 mG2, .slice KG2 ksG2.length qG2] 30)).heap[w.heap.size]? = some (.cells #[vs aO, .int .i64 rank1, .int .i64 kind1, vs name1, .int .i64 value1, .int .i64 oC1, vs nC1, .int .i64 dC1, .int .i64 mC1, .slice KC1 ksC1.length qC1, .slice A1 aB.length p1, .int .i64 oB1, vs nB1, .int .i64 mB1, .slice KB1 ksB1.length qB1, .int .i64 oD1, vs nD1, .int .i64 mD1, .slice KD1 ksD1.length qD1, .int .i64 oG1, vs nG1, .int .i64 mG1, .slice KG1 ksG1.length qG1] 30 (0, 0)) from Z8 (J4 rfl)); have dJ := Hi (show ((w.alloc (.cells #[vs aO, .int .i64 rank1, .int .i64 kind1, vs name1, .int .i64 value1, .int .i64 oC1, vs nC1, .int .i64 dC1, .int .i64 mC1, .slice KC1 ksC1.length qC1, .slice A1 aB.length p1, .int .i64 oB1, vs nB1, .int .i64 mB1, .slice KB1 ksB1.length qB1, .int .i64 oD1, vs nD1, .int .i64 mD1, .slice KD1 ksD1.length qD1, .int .i64 oG1, vs nG1, .int .i64 mG1, .slice KG1 ksG1.length qG1] 30)).alloc (.cells #[vs aN, .int .i64 rank2, .int .i64 kind2, vs name2, .int .i64 value2, .int .i64 oC2, vs nC2, .int .i64 dC2, .int .i64 mC2, .slice KC2 ksC2.length qC2, .slice A2 aA.length p2, .int .i64 oB2, vs nB2, .int .i64 mB2, .slice KB2 ksB2.length qB2, .int .i64 oD2, vs nD2, .int .i64 mD2, .slice KD2 ksD2.length qD2, .int .i64 oG2, vs nG2, .int .i64 mG2, .slice KG2 ksG2.length qG2] 30)).heap[w.heap.size + 1]? = some (.cells #[vs aN, .int .i64 rank2, .int .i64 kind2, vs name2, .int .i64 value2, .int .i64 oC2, vs nC2, .int .i64 dC2, .int .i64 mC2, .slice KC2 ksC2.length qC2, .slice A2 aA.length p2, .int .i64 oB2, vs nB2, .int .i64 mB2, .slice KB2 ksB2.length qB2, .int .i64 oD2, vs nD2, .int .i64 mD2, .slice KD2 ksD2.length qD2, .int .i64 oG2, vs nG2, .int .i64 mG2, .slice KG2 ksG2.length qG2] 30 (0, 0)) from J4 (by simp)); clear dA; refine (qfv aB aA _ _ _ _ _ (E1.out.below HW.out) (E2.out.below HW.out) dS).mono ?_; rintro e w3 ⟨rfl, cD⟩; have bX := Hi (HW.out.trans (cD.mono HW.out.size)); have aD := Hi ((cD.block _ (lHp dK.out)).trans dK.out); have aC := Hi ((cD.block _ (lHp dJ.out)).trans dJ.out); have u0x5 := cOb (o := 5) aD.out rfl; have v0x5 := cOb (o := 5) aC.out rfl; have u0x6 := cOb (o := 6) aD.out rfl; have v0x6 := cOb (o := 6) aC.out rfl; have u0x7 := cOb (o := 7) aD.out rfl; have v0x7 := cOb (o := 7) aC.out rfl; have u0x8 := cOb (o := 8) aD.out rfl; have v0x8 := cOb (o := 8) aC.out rfl; have u0x9 := cOb (o := 9) aD.out rfl; have v0x9 := cOb (o := 9) aC.out rfl; have l1w3 := lHp aD.out; have l2w3 := lHp aC.out; clear cD; cases aY : (aB == aA) with
 | false =>
   go_wp2_with fail; go_ret; exact ⟨by simp only [aY, Bool.true_and, Bool.false_and]; rfl, bX.out⟩
 | true =>
 go_wp2_with fail; refine (qh1 _ (.mk oC1 nC1 dC1 mC1 ksC1) (.mk oC2 nC2 dC2 mC2 ksC2) _ _ _ (lR _) dV (TC1.out.keep bX.out) (TC2.out.keep bX.out)).mono ?_; rintro e w4 ⟨rfl, cC⟩; have bW := Hi (bX.out.trans (cC.mono bX.out.size)); have aH := Hi ((cC.block _ (lHp aD.out)).trans aD.out); have aF := Hi ((cC.block _ (lHp aC.out)).trans aC.out); have u1x11 := cOb (o := 11) aH.out rfl; have v1x11 := cOb (o := 11) aF.out rfl; have u1x12 := cOb (o := 12) aH.out rfl; have v1x12 := cOb (o := 12) aF.out rfl; have u1x13 := cOb (o := 13) aH.out rfl; have v1x13 := cOb (o := 13) aF.out rfl; have u1x14 := cOb (o := 14) aH.out rfl; have v1x14 := cOb (o := 14) aF.out rfl; have l1w4 := lHp aH.out; have l2w4 := lHp aF.out; clear cC; cases bB : (eqX (.mk oC1 nC1 dC1 mC1 ksC1) (.mk oC2 nC2 dC2 mC2 ksC2)) with
 | false =>
   go_wp2_with fail; go_ret; exact ⟨by simp only [aY, bB, Bool.true_and, Bool.false_and]; rfl, bW.out⟩
 | true =>
 go_wp2_with fail; refine (Ch _ (.mk oB1 nB1 dB1 mB1 ksB1) (.mk oB2 nB2 dB2 mB2 ksB2) _ _ _ (lR _) dW PB1.out PB2.out (TB1.out.keep bW.out) (TB2.out.keep bW.out)).mono ?_; rintro e w5 ⟨rfl, cA⟩; have bV := Hi (bW.out.trans (cA.mono bW.out.size)); have aG := Hi ((cA.block _ (lHp aH.out)).trans aH.out); have aE := Hi ((cA.block _ (lHp aF.out)).trans aF.out); have u2x15 := cOb (o := 15) aG.out rfl; have v2x15 := cOb (o := 15) aE.out rfl; have u2x16 := cOb (o := 16) aG.out rfl; have v2x16 := cOb (o := 16) aE.out rfl; have u2x17 := cOb (o := 17) aG.out rfl; have v2x17 := cOb (o := 17) aE.out rfl; have u2x18 := cOb (o := 18) aG.out rfl; have v2x18 := cOb (o := 18) aE.out rfl; have l1w5 := lHp aG.out; have l2w5 := lHp aE.out; clear cA; cases bY : (eqX (.mk oB1 nB1 dB1 mB1 ksB1) (.mk oB2 nB2 dB2 mB2 ksB2)) with
 | false =>
   go_wp2_with fail; go_ret; exact ⟨by simp only [aY, bB, bY, Bool.true_and, Bool.false_and]; rfl, bV.out⟩
 | true =>
 go_wp2_with fail; refine (Ch _ (.mk oD1 nD1 dD1 mD1 ksD1) (.mk oD2 nD2 dD2 mD2 ksD2) _ _ _ (lR _) dU PD1.out PD2.out (TD1.out.keep bV.out) (TD2.out.keep bV.out)).mono ?_; rintro e w6 ⟨rfl, bZ⟩; have bU := Hi (bV.out.trans (bZ.mono bV.out.size)); have aK := Hi ((bZ.block _ (lHp aG.out)).trans aG.out); have aJ := Hi ((bZ.block _ (lHp aE.out)).trans aE.out); have u3x19 := cOb (o := 19) aK.out rfl; have v3x19 := cOb (o := 19) aJ.out rfl; have u3x20 := cOb (o := 20) aK.out rfl; have v3x20 := cOb (o := 20) aJ.out rfl; have u3x21 := cOb (o := 21) aK.out rfl; have v3x21 := cOb (o := 21) aJ.out rfl; have u3x22 := cOb (o := 22) aK.out rfl; have v3x22 := cOb (o := 22) aJ.out rfl; have l1w6 := lHp aK.out; have l2w6 := lHp aJ.out; clear bZ; cases cL : (eqX (.mk oD1 nD1 dD1 mD1 ksD1) (.mk oD2 nD2 dD2 mD2 ksD2)) with
 | false =>
   go_wp2_with fail; go_ret; exact ⟨by simp only [aY, bB, bY, cL, Bool.true_and, Bool.false_and]; rfl, bU.out⟩
 | true =>
 go_wp2_with fail; refine (Ch _ (.mk oG1 nG1 dG1 mG1 ksG1) (.mk oG2 nG2 dG2 mG2 ksG2) _ _ _ (lR _) dT PG1.out PG2.out (TG1.out.keep bU.out) (TG2.out.keep bU.out)).mono ?_; rintro e w7 ⟨rfl, dG⟩; have dL := Hi (bU.out.trans (dG.mono bU.out.size)); clear dG; cases dB : (eqX (.mk oG1 nG1 dG1 mG1 ksG1) (.mk oG2 nG2 dG2 mG2 ksG2)) with
 | false =>
   go_wp2_with fail; go_ret; exact ⟨by simp only [aY, bB, bY, cL, dB, Bool.true_and, Bool.false_and]; rfl, dL.out⟩
 | true =>
 go_wp2_with fail; go_ret; exact ⟨by simp only [aY, bB, bY, cL, dB, Bool.true_and]; rfl, dL.out⟩
end
section
def exP (id : Qa) : Qf := ⟨id, 2, 2, [116, 97, 120], 5, .mk 6 [] 0 0 [.mk 3 [97, 103, 101] 6 18 [], .mk 5 [] 0 0 [.mk 4 [112, 111, 111, 114] 0 0 []]], [[112, 50], [112, 51]], .mk 9 [] 0 0 [.mk 3 [] 0 10 [], .mk 4 [111, 49] 0 0 []], .mk 2 [] 0 0 [], .mk 2 [] 0 0 []⟩
abbrev exN : Qa := [97, 99, 116, 32, 112, 49, 58, 32, 97, 110, 115, 119, 101, 114, 32, 116, 97, 120, 32, 105, 115, 32, 53, 32, 105, 102, 32, 97, 103, 101, 32, 62, 61, 32, 49, 56, 32, 97, 110, 100, 32, 110, 111, 116, 32, 112, 111, 111, 114, 32, 110, 111, 116, 119, 105, 116, 104, 115, 116, 97, 110, 100, 105, 110, 103, 32, 112, 50, 44, 32, 112, 51, 32, 102, 114, 111, 109, 32, 100, 97, 121, 32, 49, 48, 32, 111, 114, 32, 111, 114, 100, 101, 114, 32, 111, 49, 46]
abbrev exS : Qa := [119, 104, 101, 114, 101, 32, 123, 32, 97, 103, 101, 32, 49, 56, 32, 108, 101, 97, 115, 116, 32, 112, 111, 111, 114, 32, 100, 101, 102, 105, 110, 101, 100, 32, 110, 101, 103, 97, 116, 101, 100, 32, 97, 108, 108, 32, 50, 32, 125, 32, 113, 117, 101, 115, 116, 105, 111, 110, 32, 116, 97, 120, 32, 103, 105, 118, 101, 115, 32, 53, 32, 111, 118, 101, 114, 114, 105, 100, 101, 115, 32, 40, 112, 50, 32, 112, 51, 41, 32, 115, 116, 97, 114, 116, 115, 32, 123, 32, 49, 48, 32, 100, 97, 121, 32, 111, 49, 32, 100, 101, 99, 114, 101, 101, 32, 97, 110, 121, 32, 50, 32, 125, 32, 91, 115, 116, 97, 116, 117, 116, 101, 32, 112, 49, 93]
abbrev exW : Qa := [119, 104, 101, 114, 101]
theorem qgp (id : Qa) : Y8 (exP id) where
 rank := by show 1 <= 2 /\ 2 <= 4; decide
 kind := Or.inr rfl
 value := by show 5 <= 1000000; decide
 cond := by rfl
 condS := by rfl
 excN := by show [[112, 50], [112, 51]].Nodup; decide
 excL := by show 2 <= 20; decide
 beg := by rfl
 begS := by rfl
 fin := by rfl
 finS := by rfl
 aga := by rfl
 agaS := by rfl
theorem Ok (id : Qa) : Y2 (upP (exP id)) := Vz (qgp id)
theorem qgs (id : Qa) : Q7 (exP id) = [id, [116, 97, 120], [112, 50], [112, 51], [97, 103, 101], [112, 111, 111, 114], [111, 49]] := rfl
theorem qf5 {α : Type} {l : List UInt8} {x y : α} (h : (match Zr l with | .ok _ => true | .error _ => false) = true) : (match Zr l with | .ok _ => x | .error _ => y) = x := by
 cases hl : Zr l with
 | ok t => rfl
 | error e => rw [hl] at h; cases h
theorem T8 (ok : Qa -> Bool) (text : Qf -> Qa) (id t : Qa) (hn : (Q7 (exP id)).all ok = true) (ht : text (exP id) = t) (hl : (match Zr t with | .ok _ => true | .error _ => false) = true) : Ii ok text (upP (exP id)) = (t, 0) := by
 unfold Ii; rw [if_pos (Wv (qgp _)), Yh, if_pos hn, ht]; exact qf5 hl
theorem qgr : J3 (upP (exP [112, 49])) = (exN, 0) := T8 Qp Yn _ _ (by decide +kernel) (by decide +kernel) (by decide +kernel)
theorem qgq : J0 (upP (exP [112, 49])) = (exS, 0) := T8 So.Qp So.Ik _ _ (by decide +kernel) (by decide +kernel) (by decide +kernel)
theorem Fy : (J3 (upP (exP exW))).2 = 0 /\ (J0 (upP (exP exW))).2 = 7 := by
 constructor
 · unfold J3; rw [T8 Qp Yn exW (Yn (exP exW)) (by decide +kernel) rfl (by decide +kernel)]
 · unfold J0 Ii; rw [if_pos (Wv (qgp _)), Yh, if_neg (by decide +kernel)]
theorem qir {p : Zt} (h : p.rank = 5) : (J3 p).2 = 1 /\ (J0 p).2 = 1 := by
 obtain ⟨a, b⟩ := C8 (p := p) (D0 (by unfold Lx; rw [h]; rfl)); rw [a, b]; exact ⟨rfl, rfl⟩
theorem Uw {l : List UInt8} {e : Nat} {a : Int} (h : Qu l = .error (e, a)) : e ≠ 0 := by
 cases hl : Zr l with
 | error x =>
   obtain ⟨c, q⟩ := x; unfold Qu at h; rw [hl] at h; cases h; exact K1 hl
 | ok ts =>
   rw [R2 hl] at h; cases hp : pr ts with
   | ok x => rw [hp] at h; cases h
   | error x =>
     obtain ⟨c, s⟩ := x; rw [hp] at h; cases h; exact (qh6 (Kt hl).2.1 hp).1
namespace So
def E {α : Type} (P : List Tok -> R α) : Prop := ∀ l e s, P l = .error (e, s) -> e ≠ 0
theorem E.ok {α : Type} (f : List Tok -> α × List Tok) : E (fun l => .ok (f l)) := fun l e s h => by cases h
theorem E.fail {α : Type} : E (fun l => (failR l : R α)) := fun l e s h => by
 unfold failR Z1 at h; cases h
 split <;> simp
theorem E.bind {α β : Type} {P : List Tok -> R α} {Q : α -> List Tok -> R β} (hP : E P) (hQ : ∀ x, E (Q x)) : E (fun l => Qc (P l) Q) := fun l e s h => by
 cases hp : P l with
 | error x =>
   obtain ⟨c, r⟩ := x; simp only [hp, Qc] at h; cases h; exact hP l _ _ hp
 | ok x =>
   obtain ⟨c, r⟩ := x; simp only [hp, Qc] at h; exact hQ c r e s h
theorem E.is {α : Type} {w : List UInt8} {yes : List Tok -> List Tok -> R α} {no : List Tok -> R α} (hy : ∀ a, E (yes a)) (hn : E no) : E (fun l => isF w l (yes l) no) := fun l e s h => by
 dsimp only [isF] at h
 split at h
 · exact hy l _ e s h
 · exact hn l e s h
theorem E.must {w : List UInt8} : E (Q3 w) := E.is (fun _ => E.ok _) E.fail
theorem E.name : E Jb := fun l e s h => by
 unfold Jb at h
 split at h
 · exact E.fail _ e s h
 · split at h
   · cases h
   · exact E.fail _ e s h
theorem E.number : E Q6 := fun l e s h => by
 unfold Q6 at h
 split at h
 · exact E.fail _ e s h
 · split at h
   · cases h
   · exact E.fail _ e s h
theorem E.limit (most : Nat) : E (Xf most) := fun l e s h => by
 unfold Xf at h; cases hp : Q6 l with
 | error x =>
   obtain ⟨c, r⟩ := x; simp only [hp, Qc] at h; cases h; exact E.number l _ _ hp
 | ok x =>
   obtain ⟨c, r⟩ := x; simp only [hp, Qc] at h
   split at h
   · cases h; simp
   · cases h
theorem E.choose (ws : List (List UInt8)) : E (Zl ws) := fun l e s h => by
 unfold Zl at h
 split at h
 · exact E.fail _ e s h
 · split at h
   · split at h
     · cases h
     · exact E.fail _ e s h
   · exact E.fail _ e s h
theorem E.combine (op k : Nat) (a : List Tok) (st : Qm) : E (Jo op k a st) := fun l e s h => by
 unfold Jo at h
 split at h
 · cases h; simp
 · split at h
   · cases h; simp
   · cases h
theorem E.group (op : Nat) (a : List Tok) (st : Qm) : E (Jv op a st) := E.bind E.number fun k l e s h => by
 try dsimp only at h
 split at h
 · cases h; simp
 · exact E.combine op k a st l e s h
theorem E.push (st : Qm) (t : Qb) : E (Xc st t) := E.ok _
theorem E.test (st : Qm) (nm : List UInt8) : E (Hj st nm) := E.bind (E.limit _) fun v => E.bind (E.choose _) fun c => E.push _ _
theorem E.item (st : Qm) : E (Zb st) :=
 E.is (fun _ => E.push _ _) <| E.is (fun _ => E.push _ _) <| E.is (fun l => E.combine 5 1 l st) <| E.is (fun l => E.group 6 l st) <| E.is (fun l => E.group 7 l st) <| E.bind E.name fun s => E.is (fun _ => E.push _ _) (E.test st s)
theorem E.sitem (st : Qm) : E (Q9 st) := by
 refine E.is (fun _ => E.push _ _) <| E.is (fun _ => E.push _ _) <| E.is (fun l => E.group 8 l st) <| E.is (fun l => E.group 9 l st) ?_; intro l e s h
 try dsimp only at h
 split at h
 · exact E.bind (E.limit _) (fun v => E.bind E.must fun _ => E.push _ _) l e s h
 · exact E.bind E.name (fun n => E.bind (E.choose _) fun c => E.push _ _) l e s h
theorem E.loop {begins : List Tok -> Bool} {item : Qm -> List Tok -> R Qm} (hi : ∀ st, E (item st)) : ∀ (f : Nat) (st : Qm), E (Zh begins item (f + 1) st)
 | 0, st => fun l e s h => by
   unfold Zh at h
   split at h
   · cases h
   · split at h
     · rw [if_pos rfl] at h; cases h; simp
     · exact E.fail _ e s h
 | f + 1, st => fun l e s h => by
   unfold Zh at h
   split at h
   · cases h
   · split at h
     · rw [if_neg (by omega)] at h; exact E.bind (hi st) (fun st' => E.loop hi f st') l e s h
     · exact E.fail _ e s h
theorem E.top (st : Qm) : E (Hh st) := fun l e s h => by
 unfold Hh at h
 split at h
 · exact E.bind E.must (fun _ => E.ok _) l e s h
 · exact E.fail _ e s h
theorem E.braces {begins : List Tok -> Bool} {item : Qm -> List Tok -> R Qm} (hi : ∀ st, E (item st)) : E (Wl begins item) := E.bind E.must fun _ => E.bind (E.loop hi 200 []) E.top
theorem E.names : ∀ (n : Nat) (out : List (List UInt8)), n + out.length = 22 -> out.length <= 20 -> E (Ql n out)
 | 0, out, h1, h2 => by omega
 | n + 1, out, h1, h2 => fun l e s h => by
   unfold Ql at h; refine E.bind (Q := fun s r => Js l (Xv out s) <| isF [41] r (fun r => .ok (out ++ [s], r)) fun r => Ql n (out ++ [s]) r) E.name (fun x => ?_) l e s h; intro r e s h; unfold Js at h
   split at h
   · rename_i hz
     have dC : out.length ≠ 20 := fun hh => by
      unfold Xv at hz
      by_cases hc : out.contains x = true
      · rw [if_pos hc] at hz; cases hz
      · rw [if_neg hc, if_pos hh] at hz; cases hz
     exact E.is (fun _ => E.ok _) (E.names n (out ++ [x]) (by simp; omega) (by simp; omega)) r e s h
   · rename_i hz; cases h; exact hz
theorem E.exc : E Kx := E.bind E.must fun _ => E.names 22 [] (by simp) (by simp)
theorem E.opt {α : Type} {w : List UInt8} {d : α} {p : List Tok -> R α} (hp : E p) : E (H8 w d p) := E.is (fun _ => hp) (E.ok _)
theorem E.kind : E K3 := E.is (fun _ => E.bind E.name fun s => E.ok _) <| E.bind E.must fun _ => E.bind E.name fun s => E.bind E.must fun _ => E.bind (E.limit _) fun v => E.ok _
theorem E.prov : E Qk :=
 E.bind (E.opt (E.braces E.item)) fun _ => E.bind E.kind fun _ => E.bind (E.opt E.exc) fun _ => E.bind (E.opt (E.braces E.sitem)) fun _ => E.bind (E.opt (E.braces E.sitem)) fun _ => E.bind (E.opt (E.braces E.sitem)) fun _ =>
 E.bind E.must fun _ => E.bind (E.choose _) fun _ => E.bind E.name fun _ => E.bind E.must fun _ => E.ok _
theorem Uw {l : List UInt8} {e : Nat} {a : Int} (h : Qu l = .error (e, a)) : e ≠ 0 := by
 cases hl : Zr l with
 | error x =>
   obtain ⟨c, q⟩ := x; unfold Qu at h; rw [hl] at h; cases h; exact K1 hl
 | ok ts =>
   unfold Qu at h; rw [hl] at h; cases hp : pr ts with
   | ok x => simp only [hp] at h; cases h
   | error x =>
     obtain ⟨c, s⟩ := x; simp only [hp] at h; cases h
     have : E (fun l => Q4 (Qk l)) := E.bind E.prov fun x r e s h => by
      try dsimp only at h
      split at h
      · cases h
      · exact E.fail _ e s h
     exact this ts _ _ hp
end So
open Go.ChangeShapes Go.WideShapes Go.ChangeAt Go.RowKit
theorem Tryz.own : ownKnob Tryz.prog.godebug = none := by kernel_rfl
theorem Tryz.laidOut : laidOutB Tryz.prog = true := by kernel_rfl
theorem Ff (W : World) (h : W.ShapedOpen Tryz.prog) : ∃ m, W.cell? ⟨2, 0, none⟩ = some (.int .i64 m) :=
 cell_of_shapedOpen_int (t := 3) (zero := #[.int .i64 0]) h (of_decide_eq_true (by kernel_rfl)) (by kernel_rfl) rfl (by kernel_rfl) (by kernel_rfl) Tryz.underlying3
theorem qgx (os : Os) (args : Array Value) : laidMetH Tryz.prog Rows.printerEqualRow.laid ((World.doorLaid Tryz.prog 400 os).forCall (fun _ _ => 0) ⟨#[], args, []⟩).memory :=
 laidMetH_of_parts3 (fuel := 8) (laidMet_of_run' 8 (by kernel_rfl) (by kernel_rfl)) (by kernel_rfl) (by kernel_rfl)
theorem qhv (W : World) (h : laidMetH Tryz.prog Rows.printerEqualRow.laid W) : Xp W := by
 refine Xp.mk' ?_ ?_
 · have h1 := h.filter (fun x => x.1 == "strings.asciiSpace"); have e : (Rows.printerEqualRow.laid.filter (fun x => x.1 == "strings.asciiSpace") : List (String × DataW Unit)) = [("strings.asciiSpace", Lib.tabData .u8 Lib.asciiSpaceTab)] := by kernel_rfl
   rw [e, Go.MakeChecks.laidMetH_plain _ _ _ (by kernel_rfl)] at h1; exact Lib.tabIs_of_head (g := 0) (rest := []) (by kernel_rfl) (by kernel_rfl) Tryz.underlying157 Tryz.underlying5 (by kernel_rfl) (by kernel_rfl) h1
 · have h1 := h.filter (fun x => x.1 == "internal/strconv.uint64pow10"); have e : (Rows.printerEqualRow.laid.filter (fun x => x.1 == "internal/strconv.uint64pow10") : List (String × DataW Unit)) = [("internal/strconv.uint64pow10", Lib.tabData .u64 Lib.pow10Tab)] := by kernel_rfl
   rw [e, Go.MakeChecks.laidMetH_plain _ _ _ (by kernel_rfl)] at h1; exact Lib.tabIs_of_head (g := 3) (rest := []) (by kernel_rfl) (by kernel_rfl) Tryz.underlying264 Tryz.underlying137 (by kernel_rfl) (by kernel_rfl) h1
theorem Rm {H : Type} {enc : TypeId × Value -> H} {a : Assume} {C : Checked} {os : Os} {f : FuncId} {fn : Func} {s : ChangeSpec} {conds : List PathCond} {apart fresh aL again : Bool} {X : World -> Array Value -> Prop}
 (hX : ∀ (w w' : World) (args : Array Value), w.heap = w'.heap -> X w args -> X w' args)
 (own : ownKnob C.prog.godebug = none) (started : os.Started) (noInit : C.prog.inits.idxOf? f = none) (eF : C.prog.funcs[f]? = some fn)
 (witness : ∃ (w : World) (tape : Tape) (i : Input), w.os = os /\ (w.forCall tape i).Shaped C.prog /\ i.vars = [] /\ Input.okWide C.prog (w.forCall tape i) .any w.heap.size f i /\
   ((s.pre enc C.prog fn conds apart (w.forCall tape i).memory i.args /\ X (w.forCall tape i).memory i.args) /\ sizedMet enc C.prog fn (OpenSpec.ofChange s) apart (w.forCall tape i).memory i.args) /\ a.holds C.prog (lone (Frame.enter C.prog f i.args .normal) [] (w.forCall tape i)))
 (contract : ∀ (W : World) (base : Nat) (args : Array Value) (ds gs : List (DataW H)) (before : List MemPlace),
   (∀ (j : Nat) t v, fn.params[j]? = some t -> args[j]? = some v -> Value.okWide C.prog W .any base t v) ->
   DataW.Whole enc C.prog fn.params.toList s.vars apart W args.toList ds gs before ->
   conds.all (PathCond.test C.prog ⟨fn.params.toList, ds, s.plain.varTypes C.prog, gs⟩) = true ->
   (DataW.weightsEach C.prog (fn.params.toList ++ s.plain.varTypes C.prog) (ds ++ gs)).all (· <= reachBytes) = true -> X W args -> W.ShapedOpen C.prog ->
   a.holds C.prog (lone (Frame.enter C.prog f args .normal) [] W) ->
   Calls C.prog f args W fun e W' => ∃ v, e = .returned v /\ s.post enc C.prog fn apart fresh aL again W args v W') :
 ReturnsInHanded a C os f .any (fun w args => (s.pre enc C.prog fn conds apart w args /\ X w args) /\ sizedMet enc C.prog fn (OpenSpec.ofChange s) apart w args) (s.post enc C.prog fn apart fresh aL again) := by
 refine returnsInHanded_of_calls own started noInit witness ?_; intro w tape i _ dR _ aI cM aV; obtain ⟨_, _, _, fn', cQ, _, _, _, _, cK⟩ := aI; have e : fn' = fn := Option.some.inj (cQ.symm.trans eF); subst e; obtain ⟨⟨⟨ds, gs, before, hw, hc⟩, hx⟩, hz⟩ := cM; have dQ := DataW.Whole.of_heap (w' := w.forCall tape i) (by rfl) hw; refine (contract (w.forCall tape i) w.heap.size i.args ds gs before cK dQ hc (hz.weights hw) (hX _ _ _ (by rfl) hx) dR aV).mono fun e W' ⟨v, he, hp⟩ => ?_; subst he; exact ChangeSpec.post_blind hp
end
section
open Go.RowKit Go.ChangeShapes Go.WideShapes Go.Deep
section
variable {H : Type} {enc : TypeId × Value -> H} {w : World} {base : Nat} {spare : Nat -> Bool} {eG : Bool}
instance : Inhabited TreeI := ⟨.mk 0 [] 0 0 []⟩
end
