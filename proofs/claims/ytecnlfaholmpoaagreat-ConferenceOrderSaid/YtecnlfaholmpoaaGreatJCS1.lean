/- A merge by rotations: what it does to a row, in plain words. A stretch of a row of clauses exchanged with another one; two stretches, turned about. -/
import Derived.Sort.Lot0
import Derived.Shelf.SlSortCmp.KitK
import Derived.Sort.WalkB2
import Derived.Sort.WalkB12
import Derived.Deep.LoopGhost
import Derived.Lib.Hide
import Derived.Test.YtecnlfaholmpoaaGreatRows
set_option linter.unusedVariables false
set_option linter.unusedSimpArgs false
namespace Go.Proofs.YtecnlfaholmpoaaGreat
open Go.Sort
section
variable {α : Type}
theorem cut_at {β : Type} (X : List β) (i : Nat) (hi : i < X.length) : X = X.take i ++ X[i] :: X.drop (i + 1) := by rw [← List.drop_eq_getElem_cons hi, List.take_append_drop]
theorem at_app [Inhabited α] (A : List α) (x : α) (B : List α) (i : Nat) (hi : i = A.length) : (A ++ x :: B).toArray[i]! = x := by
 subst hi
 rw [getElem!_pos _ _ (by simp)]
 simp
theorem swp_app [Inhabited α] (A B C : List α) (x y : α) (i j : Nat) (hi : i = A.length) (hj : j = A.length + 1 + B.length) : swp (A ++ x :: (B ++ y :: C)).toArray i j = (A ++ y :: (B ++ x :: C)).toArray := by
 subst hi
 unfold swp
 rw [at_app A x _ _ rfl]
 have e : A ++ x :: (B ++ y :: C) = (A ++ x :: B) ++ y :: C := by simp
 have hy : (A ++ x :: (B ++ y :: C)).toArray[j]! = y := by rw [e]; exact at_app _ _ _ _ (by rw [hj]; simp; omega)
 rw [hy, List.setIfInBounds_toArray, List.setIfInBounds_toArray]
 congr 1
 rw [List.set_append_right _ _ (Nat.le_refl _), Nat.sub_self, List.set_cons_zero]
 have e2 : A ++ y :: (B ++ y :: C) = (A ++ y :: B) ++ y :: C := by simp
 have hl : (A ++ y :: B).length = j := by rw [hj]; simp; omega
 rw [e2, List.set_append_right _ _ (by omega), ← hl, Nat.sub_self, List.set_cons_zero]
 simp
def swR (p U q V s : List α) (i : Nat) : List α := p ++ (V.take i ++ (U.drop i ++ (q ++ (U.take i ++ (V.drop i ++ s)))))
theorem swR_zero (p U q V s : List α) : swR p U q V s 0 = p ++ (U ++ (q ++ (V ++ s))) := by simp [swR]
theorem swR_all (p U q V s : List α) (n : Nat) (h1 : n = U.length) (h2 : U.length = V.length) : swR p U q V s n = p ++ (V ++ (q ++ (U ++ s))) := by
 subst h1
 unfold swR
 rw [List.take_length, List.drop_length, h2, List.take_length, List.drop_length]
 simp
theorem swR_len (p U q V s : List α) (i : Nat) : (swR p U q V s i).length = p.length + U.length + q.length + V.length + s.length := by
 simp [swR]
 omega
theorem swR_step [Inhabited α] (p U q V s : List α) (i a b : Nat) (h : U.length = V.length) (hi : i < U.length) (ha : a = p.length + i) (hb : b = p.length + U.length + q.length + i) : swp (swR p U q V s i).toArray a b = (swR p U q V s (i + 1)).toArray := by
 have hv : i < V.length := by omega
 have e1 : swR p U q V s i = (p ++ V.take i) ++ U[i] :: ((U.drop (i + 1) ++ (q ++ U.take i)) ++ V[i] :: (V.drop (i + 1) ++ s)) := by
  unfold swR
  rw [List.drop_eq_getElem_cons hi, List.drop_eq_getElem_cons hv]
  simp only [List.append_assoc, List.cons_append, List.nil_append]
 have e2 : swR p U q V s (i + 1) = (p ++ V.take i) ++ V[i] :: ((U.drop (i + 1) ++ (q ++ U.take i)) ++ U[i] :: (V.drop (i + 1) ++ s)) := by
  unfold swR
  rw [List.take_succ_eq_append_getElem hi, List.take_succ_eq_append_getElem hv]
  simp only [List.append_assoc, List.cons_append, List.nil_append]
 rw [e1, e2]
 exact swp_app _ _ _ _ _ _ _ (by simp; omega) (by simp; omega)
theorem sym_split [Inhabited α] {cf : α → α → Int} {B : α → α → Prop} (tr : ∀ x y z, B x y → B y z → B x z) (p X Y s : List α) (hX : X.Pairwise B) (hY : Y.Pairwise B)
 (c1 : ∀ x ∈ X, ∀ y ∈ Y, cf y x < 0 → B y x) (c2 : ∀ x ∈ X, ∀ y ∈ Y, 0 ≤ cf y x → B x y) (a m b mid n st : Nat) (ha : a = p.length) (hm : m = p.length + X.length) (hb : b = p.length + X.length + Y.length) (hmid : mid = (a + b) / 2) (hn : n = mid + m)
 (h1 : a ≤ st) (h2 : st ≤ m) (h3 : st ≤ mid) (h4 : n ≤ st + b)
 (hl : st = a ∨ st + b = n ∨ 0 ≤ cf (p ++ (X ++ (Y ++ s))).toArray[n - st]! (p ++ (X ++ (Y ++ s))).toArray[st - 1]!)
 (hr : st = m ∨ st = mid ∨ cf (p ++ (X ++ (Y ++ s))).toArray[n - 1 - st]! (p ++ (X ++ (Y ++ s))).toArray[st]! < 0) :
 ∃ X1 X2 Y1 Y2, X = X1 ++ X2 ∧ Y = Y1 ++ Y2 ∧ p.length + X1.length = st ∧ m + Y1.length = n - st ∧ ∀ x ∈ X1 ++ Y1, ∀ y ∈ X2 ++ Y2, B x y := by
 subst ha hm hb
 have hx : ∀ (i : Nat) (hi : i < X.length) (j : Nat), j = p.length + i → (p ++ (X ++ (Y ++ s))).toArray[j]! = X[i] := fun i hi j hj => by
  have e : p ++ (X ++ (Y ++ s)) = (p ++ X.take i) ++ X[i] :: (X.drop (i + 1) ++ (Y ++ s)) := by
   conv => lhs; rw [cut_at X i hi]
   simp only [List.append_assoc, List.cons_append, List.nil_append]
  rw [e]
  exact at_app _ _ _ _ (by simp; omega)
 have hy : ∀ (i : Nat) (hi : i < Y.length) (j : Nat), j = p.length + X.length + i → (p ++ (X ++ (Y ++ s))).toArray[j]! = Y[i] := fun i hi j hj => by
  have e : p ++ (X ++ (Y ++ s)) = (p ++ (X ++ Y.take i)) ++ Y[i] :: (Y.drop (i + 1) ++ s) := by
   conv => lhs; rw [cut_at Y i hi]
   simp only [List.append_assoc, List.cons_append, List.nil_append]
  rw [e]
  exact at_app _ _ _ _ (by simp; omega)
 obtain ⟨u, hu⟩ : ∃ u, u = st - p.length := ⟨_, rfl⟩
 obtain ⟨v, hv⟩ : ∃ v, v = n - st - (p.length + X.length) := ⟨_, rfl⟩
 have hul : u ≤ X.length := by omega
 have hvl : v ≤ Y.length := by omega
 have pwX := List.pairwise_iff_getElem.1 hX
 have pwY := List.pairwise_iff_getElem.1 hY
 refine ⟨X.take u, X.drop u, Y.take v, Y.drop v, (List.take_append_drop _ _).symm, (List.take_append_drop _ _).symm, by simp; omega, by simp; omega, ?_⟩
 have A1 : ∀ (i j : Nat) (hi : i < X.length) (hj : j < Y.length), i < u → v ≤ j → B X[i] Y[j] := fun i j hi hj hiu hjv => by
  rcases hl with h | h | h
  · omega
  · omega
  · rw [hy v (by omega) _ (by omega), hx (u - 1) (by omega) _ (by omega)] at h
    have h0 := c2 _ (List.getElem_mem (show u - 1 < X.length by omega)) _ (List.getElem_mem (show v < Y.length by omega)) h
    have h0 : B X[i] Y[v] := by
     by_cases e : i = u - 1
     · subst e; exact h0
     · exact tr _ _ _ (pwX i (u - 1) hi (by omega) (by omega)) h0
    by_cases e : j = v
    · subst e; exact h0
    · exact tr _ _ _ h0 (pwY v j (by omega) hj (by omega))
 have A2 : ∀ (i j : Nat) (hi : i < X.length) (hj : j < Y.length), u ≤ i → j < v → B Y[j] X[i] := fun i j hi hj hiu hjv => by
  rcases hr with h | h | h
  · omega
  · omega
  · rw [hy (v - 1) (by omega) _ (by omega), hx u (by omega) _ (by omega)] at h
    have h0 := c1 _ (List.getElem_mem (show u < X.length by omega)) _ (List.getElem_mem (show v - 1 < Y.length by omega)) h
    have h0 : B Y[j] X[u] := by
     by_cases e : j = v - 1
     · subst e; exact h0
     · exact tr _ _ _ (pwY j (v - 1) hj (by omega) (by omega)) h0
    by_cases e : i = u
    · subst e; exact h0
    · exact tr _ _ _ h0 (pwX u i (by omega) hi (by omega))
 intro x hxm y hym
 rw [List.mem_append] at hxm hym
 rcases hxm with hxm | hxm
 · obtain ⟨i, hi, rfl⟩ := List.getElem_of_mem hxm
   rw [List.length_take] at hi
   rw [List.getElem_take]
   rcases hym with hym | hym
   · obtain ⟨j, hj, rfl⟩ := List.getElem_of_mem hym
     rw [List.length_drop] at hj
     rw [List.getElem_drop]
     exact pwX _ _ (by omega) (by omega) (by omega)
   · obtain ⟨j, hj, rfl⟩ := List.getElem_of_mem hym
     rw [List.length_drop] at hj
     rw [List.getElem_drop]
     exact A1 _ _ (by omega) (by omega) (by omega) (by omega)
 · obtain ⟨i, hi, rfl⟩ := List.getElem_of_mem hxm
   rw [List.length_take] at hi
   rw [List.getElem_take]
   rcases hym with hym | hym
   · obtain ⟨j, hj, rfl⟩ := List.getElem_of_mem hym
     rw [List.length_drop] at hj
     rw [List.getElem_drop]
     exact A2 _ _ (by omega) (by omega) (by omega) (by omega)
   · obtain ⟨j, hj, rfl⟩ := List.getElem_of_mem hym
     rw [List.length_drop] at hj
     rw [List.getElem_drop]
     exact pwY _ _ (by omega) (by omega) (by omega)
theorem sym_join {B : α → α → Prop} {X1 X2 Y1 Y2 Z1 Z2 : List α} (p1 : Z1.Perm (X1 ++ Y1)) (p2 : Z2.Perm (X2 ++ Y2)) (w1 : Z1.Pairwise B) (w2 : Z2.Pairwise B) (h : ∀ x ∈ X1 ++ Y1, ∀ y ∈ X2 ++ Y2, B x y) :
 (Z1 ++ Z2).Perm ((X1 ++ X2) ++ (Y1 ++ Y2)) ∧ (Z1 ++ Z2).Pairwise B := by
 constructor
 · refine (p1.append p2).trans ?_
   rw [List.append_assoc, List.append_assoc]
   refine List.Perm.append_left X1 ?_
   rw [← List.append_assoc, ← List.append_assoc]
   exact List.perm_append_comm.append_right Y2
 · rw [List.pairwise_append]
   exact ⟨w1, w2, fun x hx y hy => h x (p1.mem_iff.1 hx) y (p2.mem_iff.1 hy)⟩
theorem one_left [Inhabited α] {cf : α → α → Int} {B : α → α → Prop} (tr : ∀ x y z, B x y → B y z → B x z) (p Y s : List α) (x : α) (hY : Y.Pairwise B)
 (c1 : ∀ y ∈ Y, cf y x < 0 → B y x) (c2 : ∀ y ∈ Y, 0 ≤ cf y x → B x y) (i m b : Nat) (hm : m = p.length + 1) (hb : b = p.length + 1 + Y.length) (h1 : m ≤ i) (h2 : i ≤ b)
 (hl : i = m ∨ cf (p ++ x :: (Y ++ s)).toArray[i - 1]! x < 0) (hr : i = b ∨ 0 ≤ cf (p ++ x :: (Y ++ s)).toArray[i]! x) :
 ∃ Y1 Y2, Y = Y1 ++ Y2 ∧ m + Y1.length = i ∧ (Y1 ++ x :: Y2).Pairwise B := by
 subst hm hb
 have hy : ∀ (i : Nat) (hi : i < Y.length) (j : Nat), j = p.length + 1 + i → (p ++ x :: (Y ++ s)).toArray[j]! = Y[i] := fun i hi j hj => by
  have e : p ++ x :: (Y ++ s) = (p ++ x :: Y.take i) ++ Y[i] :: (Y.drop (i + 1) ++ s) := by
   conv => lhs; rw [cut_at Y i hi]
   simp only [List.append_assoc, List.cons_append, List.nil_append]
  rw [e]
  exact at_app _ _ _ _ (by simp; omega)
 obtain ⟨v, hv⟩ : ∃ v, v = i - (p.length + 1) := ⟨_, rfl⟩
 have pwY := List.pairwise_iff_getElem.1 hY
 refine ⟨Y.take v, Y.drop v, (List.take_append_drop _ _).symm, by simp; omega, ?_⟩
 rw [List.pairwise_append, List.pairwise_cons]
 have A1 : ∀ (j : Nat) (hj : j < Y.length), j < v → B Y[j] x := fun j hj hjv => by
  rcases hl with h | h
  · omega
  · rw [hy (v - 1) (by omega) _ (by omega)] at h
    have h0 := c1 _ (List.getElem_mem (show v - 1 < Y.length by omega)) h
    by_cases e : j = v - 1
    · subst e; exact h0
    · exact tr _ _ _ (pwY j (v - 1) hj (by omega) (by omega)) h0
 have A2 : ∀ (j : Nat) (hj : j < Y.length), v ≤ j → B x Y[j] := fun j hj hjv => by
  rcases hr with h | h
  · omega
  · rw [hy v (by omega) _ (by omega)] at h
    have h0 := c2 _ (List.getElem_mem (show v < Y.length by omega)) h
    by_cases e : j = v
    · subst e; exact h0
    · exact tr _ _ _ h0 (pwY v j (by omega) hj (by omega))
 have M1 : ∀ y ∈ Y.take v, B y x := fun y hym => by
  obtain ⟨j, hj, rfl⟩ := List.getElem_of_mem hym
  rw [List.length_take] at hj
  rw [List.getElem_take]
  exact A1 _ (by omega) (by omega)
 have M2 : ∀ y ∈ Y.drop v, B x y := fun y hym => by
  obtain ⟨j, hj, rfl⟩ := List.getElem_of_mem hym
  rw [List.length_drop] at hj
  rw [List.getElem_drop]
  exact A2 _ (by omega) (by omega)
 refine ⟨hY.sublist (List.take_sublist _ _), ⟨M2, hY.sublist (List.drop_sublist _ _)⟩, fun y' hy' z hz => ?_⟩
 rcases List.mem_cons.1 hz with e | hz
 · rw [e]; exact M1 y' hy'
 · exact tr _ _ _ (M1 y' hy') (M2 z hz)
theorem one_right [Inhabited α] {cf : α → α → Int} {B : α → α → Prop} (tr : ∀ x y z, B x y → B y z → B x z) (p X s : List α) (y : α) (hX : X.Pairwise B)
 (c1 : ∀ x ∈ X, cf y x < 0 → B y x) (c2 : ∀ x ∈ X, 0 ≤ cf y x → B x y) (i m : Nat) (hm : m = p.length + X.length) (h1 : p.length ≤ i) (h2 : i ≤ m)
 (hl : i = p.length ∨ 0 ≤ cf y (p ++ (X ++ y :: s)).toArray[i - 1]!) (hr : i = m ∨ cf y (p ++ (X ++ y :: s)).toArray[i]! < 0) :
 ∃ X1 X2, X = X1 ++ X2 ∧ p.length + X1.length = i ∧ (X1 ++ y :: X2).Pairwise B := by
 subst hm
 have hx : ∀ (i : Nat) (hi : i < X.length) (j : Nat), j = p.length + i → (p ++ (X ++ y :: s)).toArray[j]! = X[i] := fun i hi j hj => by
  have e : p ++ (X ++ y :: s) = (p ++ X.take i) ++ X[i] :: (X.drop (i + 1) ++ y :: s) := by
   conv => lhs; rw [cut_at X i hi]
   simp only [List.append_assoc, List.cons_append, List.nil_append]
  rw [e]
  exact at_app _ _ _ _ (by simp; omega)
 obtain ⟨v, hv⟩ : ∃ v, v = i - p.length := ⟨_, rfl⟩
 have pwX := List.pairwise_iff_getElem.1 hX
 refine ⟨X.take v, X.drop v, (List.take_append_drop _ _).symm, by simp; omega, ?_⟩
 rw [List.pairwise_append, List.pairwise_cons]
 have A1 : ∀ (j : Nat) (hj : j < X.length), j < v → B X[j] y := fun j hj hjv => by
  rcases hl with h | h
  · omega
  · rw [hx (v - 1) (by omega) _ (by omega)] at h
    have h0 := c2 _ (List.getElem_mem (show v - 1 < X.length by omega)) h
    by_cases e : j = v - 1
    · subst e; exact h0
    · exact tr _ _ _ (pwX j (v - 1) hj (by omega) (by omega)) h0
 have A2 : ∀ (j : Nat) (hj : j < X.length), v ≤ j → B y X[j] := fun j hj hjv => by
  rcases hr with h | h
  · omega
  · rw [hx v (by omega) _ (by omega)] at h
    have h0 := c1 _ (List.getElem_mem (show v < X.length by omega)) h
    by_cases e : j = v
    · subst e; exact h0
    · exact tr _ _ _ h0 (pwX v j (by omega) hj (by omega))
 have M1 : ∀ x ∈ X.take v, B x y := fun x hxm => by
  obtain ⟨j, hj, rfl⟩ := List.getElem_of_mem hxm
  rw [List.length_take] at hj
  rw [List.getElem_take]
  exact A1 _ (by omega) (by omega)
 have M2 : ∀ x ∈ X.drop v, B y x := fun x hxm => by
  obtain ⟨j, hj, rfl⟩ := List.getElem_of_mem hxm
  rw [List.length_drop] at hj
  rw [List.getElem_drop]
  exact A2 _ (by omega) (by omega)
 refine ⟨hX.sublist (List.take_sublist _ _), ⟨M2, hX.sublist (List.drop_sublist _ _)⟩, fun x' hx' z hz => ?_⟩
 rcases List.mem_cons.1 hz with e | hz
 · rw [e]; exact M1 x' hx'
 · exact tr _ _ _ (M1 x' hx') (M2 z hz)
theorem swp_next [Inhabited α] (A C : List α) (x y : α) (i j : Nat) (hi : i = A.length) (hj : j = A.length + 1) : swp (A ++ x :: (y :: C)).toArray i j = (A ++ y :: (x :: C)).toArray := swp_app A [] C x y i j hi (by simpa using hj)
theorem swp_prev [Inhabited α] (A C : List α) (x y : α) (i j : Nat) (hi : i = A.length + 1) (hj : j = A.length) : swp (A ++ x :: (y :: C)).toArray i j = (A ++ y :: (x :: C)).toArray := by
 subst hj
 have e : A ++ x :: (y :: C) = (A ++ [x]) ++ y :: C := by simp
 unfold swp
 rw [at_app A x _ _ rfl]
 have hy : (A ++ x :: (y :: C)).toArray[i]! = y := by rw [e]; exact at_app _ _ _ _ (by rw [hi]; simp)
 rw [hy, e, List.setIfInBounds_toArray, List.setIfInBounds_toArray]
 congr 1
 have hl : (A ++ [x]).length = i := by rw [hi]; simp
 rw [← hl, List.set_append_right _ _ (Nat.le_refl _), Nat.sub_self, List.set_cons_zero]
 have e2 : A ++ [x] ++ x :: C = A ++ x :: (x :: C) := by simp
 rw [e2, List.set_append_right _ _ (Nat.le_refl _), Nat.sub_self, List.set_cons_zero]
def oneR (p Y : List α) (x : α) (r : List α) (t : Nat) : List α := p ++ (Y.take t ++ x :: (Y.drop t ++ r))
theorem oneR_zero (p Y r : List α) (x : α) : oneR p Y x r 0 = p ++ x :: (Y ++ r) := by simp [oneR]
theorem oneR_all (p Y r : List α) (x : α) (n : Nat) (hn : n = Y.length) : oneR p Y x r n = p ++ (Y ++ x :: r) := by subst hn; simp [oneR]
theorem oneR_len (p Y r : List α) (x : α) (t : Nat) : (oneR p Y x r t).length = p.length + Y.length + 1 + r.length := by
 simp [oneR]
 omega
theorem oneR_next [Inhabited α] (p Y r : List α) (x : α) (t i j : Nat) (ht : t < Y.length) (hi : i = p.length + t) (hj : j = i + 1) : swp (oneR p Y x r t).toArray i j = (oneR p Y x r (t + 1)).toArray := by
 have e1 : oneR p Y x r t = (p ++ Y.take t) ++ x :: (Y[t] :: (Y.drop (t + 1) ++ r)) := by
  unfold oneR
  rw [List.drop_eq_getElem_cons ht]
  simp only [List.append_assoc, List.cons_append, List.nil_append]
 have e2 : oneR p Y x r (t + 1) = (p ++ Y.take t) ++ Y[t] :: (x :: (Y.drop (t + 1) ++ r)) := by
  unfold oneR
  rw [List.take_succ_eq_append_getElem ht]
  simp only [List.append_assoc, List.cons_append, List.nil_append]
 rw [e1, e2]
 exact swp_next _ _ _ _ _ _ (by simp; omega) (by simp; omega)
theorem oneR_prev [Inhabited α] (p Y r : List α) (x : α) (t i j : Nat) (ht : t < Y.length) (hj : j = p.length + t) (hi : i = j + 1) : swp (oneR p Y x r (t + 1)).toArray i j = (oneR p Y x r t).toArray := by
 have e1 : oneR p Y x r t = (p ++ Y.take t) ++ x :: (Y[t] :: (Y.drop (t + 1) ++ r)) := by
  unfold oneR
  rw [List.drop_eq_getElem_cons ht]
  simp only [List.append_assoc, List.cons_append, List.nil_append]
 have e2 : oneR p Y x r (t + 1) = (p ++ Y.take t) ++ Y[t] :: (x :: (Y.drop (t + 1) ++ r)) := by
  unfold oneR
  rw [List.take_succ_eq_append_getElem ht]
  simp only [List.append_assoc, List.cons_append, List.nil_append]
 rw [e1, e2]
 exact swp_prev _ _ _ _ _ _ (by simp; omega) (by simp; omega)
end
end Go.Proofs.YtecnlfaholmpoaaGreat
set_option maxRecDepth 100000
set_option maxHeartbeats 4000000
namespace Go.Proofs.YtecnlfaholmpoaaGreat
open Go.Shelf Go.RowKit Go.Lib Go.Sort
def loadS (a : Addr) : Sem Value := loadVar 51 a
@[local go_sem ↓ high] theorem loadVar_foldS (a : Addr) : loadVar 51 a = loadS a := rfl
def storeS (a : Addr) (v : Value) : Sem Unit := storeVar 51 a v
@[local go_sem ↓ high] theorem storeVar_foldS (a : Addr) (v : Value) : storeVar 51 a v = storeS a v := rfl
theorem isAgg_claS (w : World) : (isAgg 51).run Tryz.prog w = .ok true w := by kernel_rfl
theorem sizeOf_claS (w : World) : (Go.sizeOf 51).run Tryz.prog w = .ok 20 w := by kernel_rfl
theorem loadS_of {w : World} {a : Addr} {C : Array Value} (h : Sem.run Tryz.prog (loadCellsFrom a 0 20 #[]) w = .ok C w) : (loadS a).run Tryz.prog w = .ok (.agg C) w := by
 unfold loadS loadVar loadCells
 simp only [Sem.run_bind, isAgg_claS, sizeOf_claS, Result.andThen, Sem.run_pure, h, if_true, ↓reduceIte]
theorem storeS_of {w w' : World} {a : Addr} {l : List Value} (hl : l.length = 20) (h : Sem.run Tryz.prog (storeCells a l 0) w = .ok () w') : (storeS a (.agg l.toArray)).run Tryz.prog w = .ok () w' := by
 unfold storeS storeVar
 have e : (Value.agg l.toArray).cells = l.toArray := rfl
 simp only [Sem.run_bind, e, sizeOf_claS, Result.andThen, List.size_toArray, hl, ne_eq, not_true_eq_false, if_false, ↓reduceIte, Sem.run_pure, h]
theorem swapRange_any {α : Type} [Inhabited α] (enc : α → List Value) (blk off cap N : Nat) (d0 : Array α) (w0 : World) (R : RowK enc 20 w0 blk off d0) (hN : d0.size = N) (hsz : N ≤ 1000000) (p U q V s : List α) (a b n : Nat) (w : World) (fv : Value) (hl : N = p.length + U.length + q.length + V.length + s.length) (h : U.length = V.length) (ha : a = p.length) (hb : b = p.length + U.length + q.length) (hn : n = U.length)
 (S : SWK enc 20 w0 blk off (p ++ (U ++ (q ++ (V ++ s)))).toArray w) :
 Calls Tryz.prog 164 #[.slice (some ⟨blk, off, none⟩) N cap, .int .i64 a, .int .i64 b, .int .i64 n, fv] w fun e w' => e = .returned (.tuple #[]) ∧ SWK enc 20 w0 blk off (p ++ (V ++ (q ++ (U ++ s)))).toArray w' := by
 have S0 : Aside (SWK enc 20 w0 blk off (swR p U q V s 0).toArray w) := by rw [swR_zero]; exact S
 rw [← swR_all p U q V s n hn h]
 have HL := Lib.hid hl; clear hl
 have HUV := Lib.hid h; clear h
 have HA := Lib.hid ha; clear ha
 have HB := Lib.hid hb; clear hb
 have HNN := Lib.hid hn; clear hn S
 have hbN : b + n ≤ N := by have := HL.out; have := HUV.out; have := HB.out; have := HNN.out; omega
 have haN : a + n ≤ N := by have := HL.out; have := HUV.out; have := HA.out; have := HNN.out; omega
 go_enter Tryz.func164, Tryz.ntmps164
 have mixed : Tryz.prog.follows .mixedOrders = true := by kernel_rfl
 go_wp2_with fail
 go_loopw [10] (fun v wr => ∃ i : Nat, i ≤ n ∧ v = .int .i64 i ∧ Aside (SWK enc 20 w0 blk off (swR p U q V s i).toArray wr)) (fun v _ => n - (intOf v).toNat)
 case atStart => exact ⟨0, Nat.zero_le _, rfl, S0⟩
 case round =>
  clear S0
  obtain ⟨i, hi, rfl, S1⟩ := hrel
  by_cases hlt : i < n
  · have hiz : (i : Int) < (n : Int) := by omega
    obtain ⟨dk, hdk⟩ : ∃ x, x = (swR p U q V s i).toArray := ⟨_, rfl⟩
    have hnx : swp dk (a + i) (b + i) = (swR p U q V s (i + 1)).toArray := by
     rw [hdk]
     exact swR_step p U q V s i (a + i) (b + i) HUV.out (by have := HNN.out; omega) (by rw [HA.out]) (by rw [HB.out])
    have HNX := Lib.hid hnx; clear hnx
    have hds : dk.size = N := by rw [hdk, List.size_toArray, swR_len]; exact HL.out.symm
    rw [← hdk] at S1
    clear hdk
    go_wp2_with fail
    have e1a : ((a : Int) + (i : Int)).toNat = a + i := by omega
    have p1a : (0 : Int) ≤ (a : Int) + (i : Int) := by omega
    have b1a : (a : Int) + (i : Int) < (N : Int) := by omega
    have r1a : IntKind.i64.wrap ((a : Int) + (i : Int)) = (a : Int) + (i : Int) := by rw [IntKind.wrap_i64]; omega
    have e1c : ((b : Int) + (i : Int)).toNat = b + i := by omega
    have p1c : (0 : Int) ≤ (b : Int) + (i : Int) := by omega
    have b1c : (b : Int) + (i : Int) < (N : Int) := by omega
    have r1c : IntKind.i64.wrap ((b : Int) + (i : Int)) = (b : Int) + (i : Int) := by rw [IntKind.wrap_i64]; omega
    have S2 : Aside (SWK enc 20 w0 blk off (swp dk (a + i) (b + i)) ((wr.drew.setCells blk (off + (a + i) * 20) (enc dk[b + i]!)).setCells blk (off + (b + i) * 20) (enc dk[a + i]!))) := S1.out.swapped R (a + i) (b + i) (by omega) (by omega)
    have la1 := loadS_of (S1.out.ld1 R (by omega) Tryz.prog (a + i) (by omega))
    have lb1 := loadS_of (S1.out.ld1 R (by omega) Tryz.prog (b + i) (by omega))
    have sa1 := storeS_of (R.hk _) (S1.out.st1 R (by omega) Tryz.prog (a + i) (by omega) dk[b + i]!)
    have sb1 := storeS_of (R.hk _) (S1.out.st2 R (by omega) Tryz.prog (a + i) (b + i) (by omega) (by omega) dk[b + i]! dk[a + i]!)
    generalize enc dk[a + i]! = cI at S2 la1 sb1
    generalize enc dk[b + i]! = cJ at S2 lb1 sa1 sb1
    clear S1
    go_wp2_with fail
    go_big_region_o
    clear la1 lb1 sa1 sb1
    generalize (wr.drew.setCells blk (off + (a + i) * 20) cJ).setCells blk (off + (b + i) * 20) cI = w2 at S2 ⊢
    go_wp2
    rw [HNX.out] at S2
    go_roundw
    case rel => exact ⟨i + 1, hlt, by go_num, S2⟩
    case measure => simp [intOf]; omega
  · have hie : i = n := by omega
    have hiz : ¬ (i : Int) < (n : Int) := by omega
    go_wp2
    go_end0
    rw [← hie]
    exact ⟨rfl, S1.out⟩
theorem rotate_any {α : Type} [Inhabited α] (enc : α → List Value) (blk off cap N : Nat) (d0 : Array α) (w0 : World) (R : RowK enc 20 w0 blk off d0) (hN : d0.size = N) (hsz : N ≤ 1000000) (p X Y s : List α) (a m b : Nat) (w : World) (fv : Value) (hX : X ≠ []) (hY : Y ≠ []) (hl : N = p.length + X.length + Y.length + s.length) (ha : a = p.length) (hm : m = p.length + X.length) (hb : b = p.length + X.length + Y.length)
 (S : SWK enc 20 w0 blk off (p ++ (X ++ (Y ++ s))).toArray w) :
 Calls Tryz.prog 145 #[.slice (some ⟨blk, off, none⟩) N cap, .int .i64 a, .int .i64 m, .int .i64 b, fv] w fun e w' => e = .returned (.tuple #[]) ∧ SWK enc 20 w0 blk off (p ++ (Y ++ (X ++ s))).toArray w' := by
 have S0 : Aside (SWK enc 20 w0 blk off (p ++ (X ++ (Y ++ s))).toArray w) := S
 clear S
 obtain ⟨i0, hi0⟩ : ∃ x, x = X.length := ⟨_, rfl⟩
 obtain ⟨j0, hj0⟩ : ∃ x, x = Y.length := ⟨_, rfl⟩
 have hip : 0 < i0 := by rw [hi0]; exact List.length_pos_iff.2 hX
 have hjp : 0 < j0 := by rw [hj0]; exact List.length_pos_iff.2 hY
 have s1 : IntKind.i64.wrap ((m : Int) - (a : Int)) = (i0 : Int) := by rw [IntKind.wrap_i64]; omega
 have s2 : IntKind.i64.wrap ((b : Int) - (m : Int)) = (j0 : Int) := by rw [IntKind.wrap_i64]; omega
 have HL := Lib.hid hl; clear hl
 have HI0 := Lib.hid hi0; clear hi0
 have HJ0 := Lib.hid hj0; clear hj0
 have hmN : m ≤ N := by have := HL.out; omega
 have HM := Lib.hid hm; clear hm
 have HAB := Lib.hid (And.intro ha hb); clear ha hb
 go_enter Tryz.func145, Tryz.ntmps145
 go_wp2_with fail
 go_loopw [10, 11] (fun v10 v11 wr => ∃ (i j : Nat) (p' X' Y' s' : List α), v10 = .int .i64 i ∧ v11 = .int .i64 j ∧ 0 < i ∧ 0 < j ∧ Hid (X'.length = i) ∧ Hid (Y'.length = j) ∧ Hid (p'.length + i = m) ∧ Hid (N = p'.length + i + j + s'.length) ∧ Hid (p' ++ (Y' ++ (X' ++ s')) = p ++ (Y ++ (X ++ s))) ∧ Aside (SWK enc 20 w0 blk off (p' ++ (X' ++ (Y' ++ s'))).toArray wr)) (fun v10 v11 _ => (intOf v10).toNat + (intOf v11).toNat)
 case atStart => exact ⟨i0, j0, p, X, Y, s, rfl, rfl, hip, hjp, Lib.hid HI0.out.symm, Lib.hid HJ0.out.symm, Lib.hid (by rw [HI0.out, HM.out]), Lib.hid (by rw [HI0.out, HJ0.out]; exact HL.out), Lib.hid rfl, S0⟩
 case round =>
  clear S0 s1 s2 hip hjp
  obtain ⟨i, j, p', X', Y', s', rfl, rfl, hi, hj, HX, HY, HP, HQ, HE, S1⟩ := hrel
  obtain ⟨pl, hpl⟩ : ∃ x, x = p'.length := ⟨_, rfl⟩
  have hpm : pl + i = m := by rw [hpl]; exact HP.out
  have hjN : m + j ≤ N := by have := HQ.out; have := HP.out; omega
  have hiN : i ≤ N := by omega
  have r1 : IntKind.i64.wrap ((m : Int) - (i : Int)) = (pl : Int) := by rw [IntKind.wrap_i64]; omega
  have HPL := Lib.hid hpl; clear hpl
  have HPM := Lib.hid hpm; clear hpm
  rcases Nat.lt_trichotomy i j with hij | hij | hij
  · obtain ⟨t, ht⟩ : ∃ t, j = i + t := ⟨j - i, by omega⟩
    obtain ⟨mt, hmt⟩ : ∃ x, x = m + t := ⟨_, rfl⟩
    have hne : ((i : Int) != (j : Int)) = true := by simp; omega
    have hgt : ¬ (j : Int) < (i : Int) := by omega
    have r3 : IntKind.i64.wrap ((m : Int) + (j : Int)) = (m : Int) + (j : Int) := by rw [IntKind.wrap_i64]; omega
    have r4 : IntKind.i64.wrap ((m : Int) + (j : Int) - (i : Int)) = (mt : Int) := by rw [IntKind.wrap_i64]; omega
    have r5 : IntKind.i64.wrap ((j : Int) - (i : Int)) = (t : Int) := by rw [IntKind.wrap_i64]; omega
    have htp : 0 < t := by omega
    have HT := Lib.hid ht; clear ht
    have HMT := Lib.hid hmt; clear hmt
    have y1 : (Y'.take t).length = t := by rw [List.length_take, HY.out, HT.out]; omega
    have y2 : (Y'.drop t).length = i := by rw [List.length_drop, HY.out, HT.out]; omega
    have ye : Y' = Y'.take t ++ Y'.drop t := (List.take_append_drop _ _).symm
    generalize Y'.take t = V1 at y1 ye
    generalize Y'.drop t = V2 at y2 ye
    have HY1 := Lib.hid y1; have HY2 := Lib.hid y2
    clear y1 y2
    have S1' : Aside (SWK enc 20 w0 blk off (p' ++ (X' ++ (V1 ++ (V2 ++ s')))).toArray wr) := by rw [ye, List.append_assoc] at S1; exact S1
    have HE' : Hid (p' ++ (V1 ++ (V2 ++ (X' ++ s'))) = p ++ (Y ++ (X ++ s))) := by have := HE.out; rw [ye, List.append_assoc] at this; exact Lib.hid this
    clear S1 HE ye HY
    have hcon := swapRange_any enc blk off cap N d0 w0 R hN hsz p' X' V1 V2 s' pl mt i wr fv (by rw [HX.out, HY1.out, HY2.out]; have := HQ.out; have := HT.out; omega) (by rw [HX.out, HY2.out]) HPL.out (by rw [HX.out, HY1.out, ← HPL.out, HMT.out, HPM.out]) HX.out.symm S1'.out
    have HCON := Lib.hid hcon; clear hcon S1'
    go_wp2_with fail
    refine HCON.out.mono ?_
    rintro e w1 ⟨rfl, S2⟩
    have S2' : Aside _ := S2
    clear S2 HCON
    go_wp2_with fail
    go_roundw
    case rel => exact ⟨i, t, p', V2, V1, X' ++ s', rfl, by go_num, hi, htp, HY2, HY1, HP, Lib.hid (by have := HQ.out; have := HT.out; rw [List.length_append, HX.out]; omega), HE', S2'⟩
    case measure => have := HT.out; simp [intOf]; omega
  · subst hij
    have hne : ((i : Int) != (i : Int)) = false := by simp
    have hcon := swapRange_any enc blk off cap N d0 w0 R hN hsz p' X' [] Y' s' pl m i wr fv (by rw [HX.out, HY.out]; have := HQ.out; simp; omega) (by rw [HX.out, HY.out]) HPL.out (by rw [HX.out, ← HPL.out, HPM.out]; rfl) HX.out.symm S1.out
    have HCON := Lib.hid hcon; clear hcon S1
    go_wp2_with fail
    refine HCON.out.mono ?_
    rintro e w1 ⟨rfl, S2⟩
    have S2' : Aside _ := S2
    clear S2 HCON
    go_wp2_with fail
    go_end0
    refine ⟨rfl, ?_⟩
    rw [← HE.out]
    exact S2'.out
  · obtain ⟨t, ht⟩ : ∃ t, i = j + t := ⟨i - j, by omega⟩
    have hne : ((i : Int) != (j : Int)) = true := by simp; omega
    have hgt : (j : Int) < (i : Int) := by omega
    have r5 : IntKind.i64.wrap ((i : Int) - (j : Int)) = (t : Int) := by rw [IntKind.wrap_i64]; omega
    have htp : 0 < t := by omega
    have HT := Lib.hid ht; clear ht
    have y1 : (X'.take j).length = j := by rw [List.length_take, HX.out, HT.out]; omega
    have y2 : (X'.drop j).length = t := by rw [List.length_drop, HX.out, HT.out]; omega
    have ye : X' = X'.take j ++ X'.drop j := (List.take_append_drop _ _).symm
    generalize X'.take j = V1 at y1 ye
    generalize X'.drop j = V2 at y2 ye
    have HY1 := Lib.hid y1; have HY2 := Lib.hid y2
    clear y1 y2
    have S1' : Aside (SWK enc 20 w0 blk off (p' ++ (V1 ++ (V2 ++ (Y' ++ s')))).toArray wr) := by rw [ye, List.append_assoc] at S1; exact S1
    have HE' : Hid ((p' ++ Y') ++ (V1 ++ (V2 ++ s')) = p ++ (Y ++ (X ++ s))) := by have := HE.out; rw [ye, List.append_assoc] at this; exact Lib.hid (by rw [List.append_assoc]; exact this)
    clear S1 HE ye HX
    have hcon := swapRange_any enc blk off cap N d0 w0 R hN hsz p' V1 V2 Y' s' pl m j wr fv (by rw [HY1.out, HY2.out, HY.out]; have := HQ.out; have := HT.out; omega) (by rw [HY1.out, HY.out]) HPL.out (by rw [HY1.out, HY2.out, ← HPL.out]; have := HPM.out; have := HT.out; omega) HY1.out.symm S1'.out
    have HCON := Lib.hid hcon; clear hcon S1'
    go_wp2_with fail
    refine HCON.out.mono ?_
    rintro e w1 ⟨rfl, S2⟩
    have S2' : Aside (SWK enc 20 w0 blk off ((p' ++ Y') ++ (V2 ++ (V1 ++ s'))).toArray w1) := by rw [List.append_assoc]; exact S2
    clear S2 HCON
    go_wp2_with fail
    go_roundw
    case rel => exact ⟨t, j, p' ++ Y', V2, V1, s', by go_num, rfl, htp, hj, HY2, HY1, Lib.hid (by rw [List.length_append, HY.out]; have := HP.out; have := HT.out; omega), Lib.hid (by rw [List.length_append, HY.out]; have := HQ.out; have := HT.out; omega), HE', S2'⟩
    case measure => have := HT.out; simp [intOf]; omega
end Go.Proofs.YtecnlfaholmpoaaGreat
