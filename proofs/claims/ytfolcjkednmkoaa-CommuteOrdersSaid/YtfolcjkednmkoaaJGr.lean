/- Groups of patches whose order matters: a search in depth finds what hangs together. Patches in another order that keeps those in order that do not commute. What the groups contain: each number once, in order. -/
import Derived.Test.YtfolcjkednmkoaaJState
set_option linter.unusedVariables false
set_option linter.unusedSimpArgs false
namespace Go.Proofs.Ytfolcjkednmkoaa
abbrev Adj := Nat → Nat → Bool
def adjF (l : List Patch) : Adj := fun i k => match l[i]?, l[k]? with
  | some a, some b => !commF a b
  | _, _ => false
theorem adjF_lt {l : List Patch} {i k : Nat} (h : adjF l i k = true) : i < l.length ∧ k < l.length := by
  unfold adjF at h
  split at h
  · rename_i h1 h2
    exact ⟨(List.getElem?_eq_some_iff.1 h1).1, (List.getElem?_eq_some_iff.1 h2).1⟩
  · cases h
theorem adjF_symm (l : List Patch) (i k : Nat) : adjF l i k = adjF l k i := by
  unfold adjF
  cases l[i]? <;> cases l[k]? <;> simp [commF_symm]
/- what is seen, and the group -/
abbrev VSt := List Bool × List Nat
def seenF (s : List Bool) (k : Nat) : Bool := s.getD k true
def vis (adj : Adj) (n : Nat) : Nat → Nat → VSt → VSt
  | 0, _, st => st
  | f + 1, i, st => (List.range n).foldl (fun st k => if !seenF st.1 k && adj i k then vis adj n f k st else st) (st.1.set i true, st.2 ++ [i])
inductive Reach (adj : Adj) (i : Nat) : Nat → Prop
  | refl : Reach adj i i
  | step {x k : Nat} : Reach adj i x → adj x k = true → Reach adj i k
theorem Reach.trans {adj : Adj} {i j k : Nat} (h1 : Reach adj i j) (h2 : Reach adj j k) : Reach adj i k := by
  induction h2 with
  | refl => exact h1
  | step _ h ih => exact .step ih h
theorem Reach.symm {adj : Adj} (hs : ∀ i k, adj i k = adj k i) {i k : Nat} (h : Reach adj i k) : Reach adj k i := by
  induction h with
  | refl => exact .refl
  | @step x k _ h ih => exact Reach.trans (.step .refl (by rw [hs]; exact h)) ih
theorem seen_set {s : List Bool} {i k : Nat} (hi : i < s.length) : seenF (s.set i true) k = (seenF s k || decide (k = i)) := by
  unfold seenF
  rw [List.getD_eq_getElem?_getD, List.getD_eq_getElem?_getD, List.getElem?_set]
  by_cases h : i = k
  · subst h; simp [hi]
  · simp [h, Ne.symm h]
def left (n : Nat) (s : List Bool) : Nat := ((List.range n).filter fun k => !seenF s k).length
theorem left_mono {n : Nat} {s s' : List Bool} (h : ∀ k, seenF s k = true → seenF s' k = true) : left n s' ≤ left n s := by
  unfold left
  rw [← List.countP_eq_length_filter, ← List.countP_eq_length_filter]
  refine List.countP_mono_left fun k _ hk => ?_
  simp only [Bool.not_eq_true'] at hk ⊢
  cases hs : seenF s k with
  | false => rfl
  | true => rw [h k hs] at hk; cases hk
theorem left_set {n : Nat} {s : List Bool} {i : Nat} (hn : s.length = n) (hi : i < n) (hu : seenF s i = false) : left n (s.set i true) < left n s := by
  unfold left
  have e : ((List.range n).filter fun k => !seenF (s.set i true) k) = ((List.range n).filter fun k => !seenF s k).filter fun k => k != i := by
    rw [List.filter_filter]
    congr 1
    funext k
    rw [seen_set (by omega)]
    by_cases h : k = i <;> simp [h]
  rw [e]
  refine List.length_filter_lt_length_iff_exists.2 ⟨i, ?_, by simp⟩
  rw [List.mem_filter, List.mem_range]
  exact ⟨hi, by simp [hu]⟩
/- what a visit has done -/
structure Visited (adj : Adj) (n i : Nat) (s s' : List Bool) (new : List Nat) : Prop where
  nd : new.Nodup
  ok : ∀ x ∈ new, x < n ∧ seenF s x = false ∧ Reach adj i x
  me : i ∈ new
  len : s'.length = n
  seen : ∀ k, seenF s' k = (seenF s k || decide (k ∈ new))
  closed : ∀ x ∈ new, ∀ k, adj x k = true → seenF s' k = true
theorem vis_ok (adj : Adj) (n : Nat) (hadj : ∀ i k, adj i k = true → k < n) : ∀ (f : Nat) (s : List Bool) (g : List Nat) (i : Nat), s.length = n → i < n → seenF s i = false → left n s ≤ f →
    ∃ new, (vis adj n f i (s, g)).2 = g ++ new ∧ Visited adj n i s (vis adj n f i (s, g)).1 new := by
  intro f
  induction f with
  | zero =>
    intro s g i hn hi hu hf
    have := left_set hn hi hu
    omega
  | succ f ih =>
    intro s g i hn hi hu hf
    have hlt := left_set hn hi hu
    have key : ∀ m, m ≤ n → ∃ new, ((List.range m).foldl (fun st k => if !seenF st.1 k && adj i k then vis adj n f k st else st) (s.set i true, g ++ [i])).2 = g ++ (i :: new) ∧
        (i :: new).Nodup ∧ (∀ x ∈ new, x < n ∧ seenF s x = false ∧ Reach adj i x) ∧
        ((List.range m).foldl (fun st k => if !seenF st.1 k && adj i k then vis adj n f k st else st) (s.set i true, g ++ [i])).1.length = n ∧
        (∀ k, seenF ((List.range m).foldl (fun st k => if !seenF st.1 k && adj i k then vis adj n f k st else st) (s.set i true, g ++ [i])).1 k = (seenF s k || decide (k ∈ i :: new))) ∧
        (∀ x ∈ new, ∀ k, adj x k = true → seenF ((List.range m).foldl (fun st k => if !seenF st.1 k && adj i k then vis adj n f k st else st) (s.set i true, g ++ [i])).1 k = true) ∧
        (∀ k, k < m → adj i k = true → seenF ((List.range m).foldl (fun st k => if !seenF st.1 k && adj i k then vis adj n f k st else st) (s.set i true, g ++ [i])).1 k = true) := by
      intro m
      induction m with
      | zero =>
        intro _
        refine ⟨[], by simp, by simp, by simp, by simpa using hn, ?_, by simp, by simp⟩
        intro k
        rw [List.range_zero, List.foldl_nil, seen_set (by omega)]
        simp
      | succ m ihm =>
        intro hm
        obtain ⟨new, h1, h2, h3, h4, h5, h6, h7⟩ := ihm (by omega)
        rw [List.range_succ, List.foldl_append, List.foldl_cons, List.foldl_nil]
        generalize (List.range m).foldl (fun st k => if !seenF st.1 k && adj i k then vis adj n f k st else st) (s.set i true, g ++ [i]) = st at h1 h4 h5 h6 h7
        obtain ⟨s1, g1⟩ := st
        simp only at h1 h4 h5 h6 h7 ⊢
        by_cases hc : (!seenF s1 m && adj i m) = true
        · rw [if_pos hc]
          simp only [Bool.and_eq_true, Bool.not_eq_true'] at hc
          have hl : left n s1 ≤ f := by
            have : left n s1 ≤ left n (s.set i true) := by
              refine left_mono fun k hk => ?_
              rw [seen_set (by omega)] at hk
              rw [h5]
              simp only [Bool.or_eq_true, decide_eq_true_eq] at hk ⊢
              exact hk.imp id (fun e => by rw [e]; exact List.mem_cons_self)
            omega
          obtain ⟨new2, k1, k2⟩ := ih s1 g1 m h4 (by omega) hc.1 hl
          have hun : ∀ x, seenF s1 x = false → seenF s x = false ∧ x ∉ i :: new := by
            intro x hx
            rw [h5] at hx
            simp only [Bool.or_eq_false_iff, decide_eq_false_iff_not] at hx
            exact hx
          refine ⟨new ++ new2, ?_, ?_, ?_, k2.len, ?_, ?_, ?_⟩
          · rw [k1, h1]; simp
          · rw [← List.cons_append, List.nodup_append]
            refine ⟨h2, k2.nd, ?_⟩
            rintro a ha b hb rfl
            exact (hun a (k2.ok a hb).2.1).2 ha
          · intro x hx
            rcases List.mem_append.1 hx with hx | hx
            · exact h3 x hx
            · obtain ⟨j1, j2, j3⟩ := k2.ok x hx
              exact ⟨j1, (hun x j2).1, Reach.trans (.step .refl hc.2) j3⟩
          · intro k
            rw [k2.seen, h5, Bool.or_assoc]
            congr 1
            rw [Bool.eq_iff_iff]
            simp only [Bool.or_eq_true, decide_eq_true_eq, List.mem_cons, List.mem_append]
            constructor
            · rintro ((h | h) | h)
              · exact .inl h
              · exact .inr (.inl h)
              · exact .inr (.inr h)
            · rintro (h | h | h)
              · exact .inl (.inl h)
              · exact .inl (.inr h)
              · exact .inr h
          · intro x hx k hk
            rcases List.mem_append.1 hx with hx | hx
            · rw [k2.seen, h6 x hx k hk]; rfl
            · exact k2.closed x hx k hk
          · intro k hk ha
            by_cases e : k = m
            · subst e
              rw [k2.seen]
              simp [k2.me]
            · rw [k2.seen, h7 k (by omega) ha]; rfl
        · rw [if_neg hc]
          refine ⟨new, h1, h2, h3, h4, h5, h6, ?_⟩
          intro k hk ha
          by_cases e : k = m
          · subst e
            cases hs : seenF s1 k with
            | true => rfl
            | false => exact absurd (by simp [hs, ha]) hc
          · exact h7 k (by omega) ha
    obtain ⟨new, h1, h2, h3, h4, h5, h6, h7⟩ := key n (Nat.le_refl n)
    refine ⟨i :: new, h1, h2, ?_, List.mem_cons_self, h4, h5, ?_⟩
    · intro x hx
      rcases List.mem_cons.1 hx with rfl | hx
      · exact ⟨hi, hu, .refl⟩
      · exact h3 x hx
    · intro x hx k hk
      rcases List.mem_cons.1 hx with rfl | hx
      · exact h7 k (hadj _ _ hk) hk
      · exact h6 x hx k hk
/- the groups -/
def srt (n : Nat) (g : List Nat) : List Nat := (List.range n).filter fun k => g.contains k
def groupsS (adj : Adj) (n m : Nat) : List Bool × List (List Nat) :=
  (List.range m).foldl (fun st i => if seenF st.1 i then st else ((vis adj n n i (st.1, [])).1, st.2 ++ [srt n (vis adj n n i (st.1, [])).2])) (List.replicate n false, [])
def groupsF (adj : Adj) (n : Nat) : List (List Nat) := (groupsS adj n n).2
open Classical in
noncomputable def comp (adj : Adj) (n i : Nat) : List Nat := (List.range n).filter fun k => decide (Reach adj i k)
open Classical in
noncomputable def heads (adj : Adj) (m : Nat) : List Nat := (List.range m).filter fun i => decide (∀ k, k < i → ¬ Reach adj k i)
theorem heads_yes {adj : Adj} {m : Nat} (h : ∀ k, k < m → ¬ Reach adj k m) : heads adj (m + 1) = heads adj m ++ [m] := by
  unfold heads
  rw [List.range_succ, List.filter_append, List.filter_cons, if_pos (by simpa using h)]; rfl
theorem heads_no {adj : Adj} {m : Nat} (h : ¬ ∀ k, k < m → ¬ Reach adj k m) : heads adj (m + 1) = heads adj m := by
  unfold heads
  rw [List.range_succ, List.filter_append, List.filter_cons, if_neg (by simpa using h)]; simp
/- what the groups are -/
theorem groups_are (adj : Adj) (n : Nat) (hadj : ∀ i k, adj i k = true → k < n) (hs : ∀ i k, adj i k = adj k i) (m : Nat) (hm : m ≤ n) :
    (groupsS adj n m).1.length = n ∧ (∀ k, k < n → (seenF (groupsS adj n m).1 k = true ↔ ∃ j, j < m ∧ Reach adj j k)) ∧ (groupsS adj n m).2 = (heads adj m).map (comp adj n) := by
  induction m with
  | zero =>
    refine ⟨by simp [groupsS], ?_, by simp [groupsS, heads]⟩
    intro k hk
    simp [groupsS, seenF, List.getD_eq_getElem?_getD, hk]
  | succ m ih =>
    obtain ⟨h1, h2, h3⟩ := ih (by omega)
    have e : groupsS adj n (m + 1) = if seenF (groupsS adj n m).1 m then groupsS adj n m else ((vis adj n n m ((groupsS adj n m).1, [])).1, (groupsS adj n m).2 ++ [srt n (vis adj n n m ((groupsS adj n m).1, [])).2]) := by
      unfold groupsS
      rw [List.range_succ, List.foldl_append, List.foldl_cons, List.foldl_nil]
    rw [e]
    cases hsn : seenF (groupsS adj n m).1 m with
    | true =>
      rw [if_pos rfl]
      obtain ⟨j, hj, hr⟩ := (h2 m (by omega)).1 hsn
      rw [heads_no (fun h => h j hj hr)]
      refine ⟨h1, ?_, h3⟩
      intro k hk
      rw [h2 k hk]
      constructor
      · rintro ⟨i, hi, hr'⟩; exact ⟨i, by omega, hr'⟩
      · rintro ⟨i, hi, hr'⟩
        by_cases e : i = m
        · subst e; exact ⟨j, hj, hr.trans hr'⟩
        · exact ⟨i, by omega, hr'⟩
    | false =>
      rw [if_neg (by simp)]
      have hno : ∀ k, k < m → ¬ Reach adj k m := by
        intro k hk hr
        rw [(h2 m (by omega)).2 ⟨k, hk, hr⟩] at hsn
        cases hsn
      rw [heads_yes hno]
      have hleft : left n (groupsS adj n m).1 ≤ n := by
        unfold left
        refine Nat.le_trans (List.length_filter_le _ _) ?_
        simp
      obtain ⟨new, k1, k2⟩ := vis_ok adj n hadj n (groupsS adj n m).1 [] m h1 (by omega) hsn hleft
      rw [List.nil_append] at k1
      have hcl : ∀ x, x < n → seenF (groupsS adj n m).1 x = false → ∀ k, adj x k = true → seenF (groupsS adj n m).1 k = false := by
        intro x hx hxs k hk
        cases hks : seenF (groupsS adj n m).1 k with
        | false => rfl
        | true =>
          obtain ⟨j, hj, hr⟩ := (h2 k (hadj _ _ hk)).1 hks
          rw [(h2 x hx).2 ⟨j, hj, .step hr (by rw [hs]; exact hk)⟩] at hxs
          cases hxs
      have hnew : ∀ k, k ∈ new ↔ Reach adj m k := by
        intro k
        constructor
        · exact fun h => (k2.ok k h).2.2
        · intro h
          induction h with
          | refl => exact k2.me
          | @step x k hr ha ih =>
            have hc := k2.closed x ih k ha
            rw [k2.seen, hcl x (k2.ok x ih).1 (k2.ok x ih).2.1 k ha] at hc
            simpa using hc
      refine ⟨k2.len, ?_, ?_⟩
      · intro k hk
        rw [k2.seen]
        simp only [Bool.or_eq_true, decide_eq_true_eq, h2 k hk, hnew]
        constructor
        · rintro (⟨j, hj, hr⟩ | h)
          · exact ⟨j, by omega, hr⟩
          · exact ⟨m, by omega, h⟩
        · rintro ⟨j, hj, hr⟩
          by_cases e : j = m
          · subst e; exact .inr hr
          · exact .inl ⟨j, by omega, hr⟩
      · rw [List.map_append, h3, k1]
        congr 1
        simp only [List.map_cons, List.map_nil]
        congr 1
        unfold srt comp
        refine congrArg (fun z => [z]) (List.filter_congr fun k _ => ?_)
        rw [Bool.eq_iff_iff]
        simp [hnew]
theorem groupsF_are (adj : Adj) (n : Nat) (hadj : ∀ i k, adj i k = true → k < n) (hs : ∀ i k, adj i k = adj k i) : groupsF adj n = (heads adj n).map (comp adj n) := (groups_are adj n hadj hs n (Nat.le_refl n)).2.2
end Go.Proofs.Ytfolcjkednmkoaa
namespace Go.Proofs.Ytfolcjkednmkoaa
def Run : List Item → List Patch → List Item → Prop
  | l, [], d => d = l
  | l, p :: r, d => (applyF l p).2 = 0 ∧ Run (applyF l p).1 r d
theorem run_iff {l d : List Item} {ps : List Patch} (i : Nat) : Run l ps d ↔ (allF l ps i).2.2 = 0 ∧ (allF l ps i).1 = d := by
  induction ps generalizing l i with
  | nil => simp [Run, allF, eq_comm]
  | cons p r ih =>
    rw [Run, allF]
    by_cases h : (applyF l p).2 = 0
    · rw [if_pos h, ih (i + 1)]
      simp [h]
    · rw [if_neg h]
      simp [h]
theorem run_append {l d : List Item} {u v : List Patch} : Run l (u ++ v) d ↔ ∃ m, Run l u m ∧ Run m v d := by
  induction u generalizing l with
  | nil => simp [Run]
  | cons p r ih =>
    rw [List.cons_append, Run, ih]
    constructor
    · rintro ⟨h, m, h1, h2⟩; exact ⟨m, ⟨h, h1⟩, h2⟩
    · rintro ⟨m, ⟨h, h1⟩, h2⟩; exact ⟨h, m, h1, h2⟩
theorem run_good {l d : List Item} {ps : List Patch} (hw : walkB l = true) (h : Run l ps d) : walkB d = true := by
  induction ps generalizing l with
  | nil => rw [Run] at h; subst h; exact hw
  | cons p r ih => exact ih (kept_law h.1).good h.2
theorem run_swap {l d : List Item} {a b : Patch} {v : List Patch} (hw : walkB l = true) (hc : commF a b = true) (h : Run l (a :: b :: v) d) : Run l (b :: a :: v) d := by
  have e : ∀ x y : Patch, x :: y :: v = [x, y] ++ v := fun _ _ => rfl
  rw [e, run_append] at h ⊢
  obtain ⟨m, h1, h2⟩ := h
  refine ⟨m, ?_, h2⟩
  rw [run_iff 0] at h1 ⊢
  rw [swap_law hw hc 0 h1.1]
  exact h1
theorem run_front {l d : List Item} {a : Patch} {u v : List Patch} (hw : walkB l = true) (hc : ∀ b ∈ u, commF b a = true) (h : Run l (u ++ a :: v) d) : Run l (a :: (u ++ v)) d := by
  induction u generalizing l with
  | nil => exact h
  | cons b r ih =>
    refine run_swap hw (hc b (by simp)) ⟨h.1, ?_⟩
    exact ih (kept_law h.1).good (fun c hm => hc c (by simp [hm])) h.2
/- two lists of indices in which those keep their order that do not commute -/
theorem run_order (f : Nat → Patch) : ∀ (J I : List Nat), I.Nodup → J.Nodup → (∀ x, x ∈ I ↔ x ∈ J) → (∀ x y, x ≠ y → commF (f x) (f y) = false → [x, y].Sublist I → [x, y].Sublist J) →
    ∀ l d, walkB l = true → Run l (I.map f) d → Run l (J.map f) d := by
  intro J
  induction J with
  | nil =>
    intro I hI hJ hm ho l d hw h
    have : I = [] := List.eq_nil_iff_forall_not_mem.2 fun x hx => by simpa using (hm x).1 hx
    rw [this] at h
    exact h
  | cons j J ih =>
    intro I hI hJ hm ho l d hw h
    obtain ⟨I1, I2, rfl⟩ := List.append_of_mem ((hm j).2 (by simp))
    rw [List.nodup_cons] at hJ
    have hn := List.nodup_append.1 hI
    have hn2 := List.nodup_cons.1 hn.2.1
    have hj1 : j ∉ I1 := fun h => hn.2.2 _ h _ (by simp) rfl
    have hcom : ∀ x ∈ I1, commF (f x) (f j) = true := by
      intro x hx
      cases hc : commF (f x) (f j) with
      | true => rfl
      | false =>
        exfalso
        have hxj : x ≠ j := by rintro rfl; exact hj1 hx
        have hs : [x, j].Sublist (I1 ++ j :: I2) := by
          have h1 : [x].Sublist I1 := by simpa using hx
          have h2 : [j].Sublist (j :: I2) := by simp
          exact h1.append h2
        have := ho x j hxj hc hs
        rcases List.sublist_cons_iff.1 this with h | ⟨r, h, _⟩
        · exact hJ.1 (h.subset (by simp))
        · simp at h; exact hxj h.1
    rw [List.map_append, List.map_cons] at h
    have h2 := run_front hw (by simpa using hcom) h
    rw [← List.map_append] at h2
    rw [List.map_cons, Run]
    refine ⟨h2.1, ?_⟩
    have hsub : (I1 ++ I2).Sublist (I1 ++ j :: I2) := List.Sublist.append (List.Sublist.refl _) (List.sublist_cons_self _ _)
    refine ih (I1 ++ I2) (hI.sublist hsub) hJ.2 ?_ ?_ _ _ (kept_law h2.1).good h2.2
    · intro x
      have := hm x
      simp only [List.mem_append, List.mem_cons] at this ⊢
      constructor
      · intro hx
        have hxj : x ≠ j := by
          rintro rfl
          rcases hx with hx | hx
          · exact hj1 hx
          · exact hn2.1 hx
        exact (this.1 (hx.elim .inl (fun h => .inr (.inr h)))).resolve_left hxj
      · intro hx
        have hxj : x ≠ j := by rintro rfl; exact hJ.1 hx
        rcases this.2 (.inr hx) with h | h | h
        · exact .inl h
        · exact absurd h hxj
        · exact .inr h
    · intro x y hxy hc hs
      have := ho x y hxy hc (hs.trans hsub)
      rcases List.sublist_cons_iff.1 this with h | ⟨r, h, _⟩
      · exact h
      · exfalso
        simp at h
        have hx : x ∈ I1 ++ I2 := hs.subset (by simp)
        rw [h.1] at hx
        rcases List.mem_append.1 hx with hx | hx
        · exact hj1 hx
        · exact hn2.1 hx
theorem pair_range {x y n : Nat} (hxy : x < y) (hy : y < n) : [x, y].Sublist (List.range n) := by
  have e : List.range n = List.range y ++ (List.range n).drop y := by
    have := List.take_append_drop y (List.range n)
    rw [List.take_range, Nat.min_eq_left (by omega)] at this
    exact this.symm
  rw [e]
  have h1 : [x].Sublist (List.range y) := by simpa using hxy
  have h2 : [y].Sublist ((List.range n).drop y) := by
    rw [List.singleton_sublist, List.mem_drop_iff_getElem]
    exact ⟨0, by simpa using hy, by simp⟩
  exact h1.append h2
theorem range_pair {x y n : Nat} (h : [x, y].Sublist (List.range n)) : x < y := by
  have := List.pairwise_lt_range (n := n) |>.sublist h
  simpa using this
theorem pair_once {x y : Nat} : ∀ {L : List Nat}, L.Nodup → [x, y].Sublist L → ¬ [y, x].Sublist L
  | [], _, h, _ => by simp at h
  | a :: r, hn, h, h2 => by
    rw [List.nodup_cons] at hn
    rcases List.sublist_cons_iff.1 h with h | ⟨t, e, h⟩
    · rcases List.sublist_cons_iff.1 h2 with h2 | ⟨t2, e2, h2⟩
      · exact pair_once hn.2 h h2
      · simp at e2
        exact hn.1 (by rw [← e2.1]; exact h.subset (by simp))
    · simp at e
      rcases List.sublist_cons_iff.1 h2 with h2 | ⟨t2, e2, h2⟩
      · exact hn.1 (by rw [← e.1]; exact h2.subset (by simp))
      · simp at e2
        rw [← e.2] at h
        exact hn.1 (by rw [← e2.1]; simpa using h)
/- groups in another order -/
theorem comp_mem {adj : Adj} {n i k : Nat} : k ∈ comp adj n i ↔ k < n ∧ Reach adj i k := by
  unfold comp; simp
theorem heads_mem {adj : Adj} {n i : Nat} : i ∈ heads adj n ↔ i < n ∧ ∀ k, k < i → ¬ Reach adj k i := by
  unfold heads; simp
theorem head_of {adj : Adj} {n : Nat} (hs : ∀ i k, adj i k = adj k i) (k : Nat) (hk : k < n) : ∃ i ∈ heads adj n, Reach adj i k := by
  induction k using Nat.strongRecOn with
  | _ k ih =>
    by_cases h : ∀ j, j < k → ¬ Reach adj j k
    · exact ⟨k, heads_mem.2 ⟨hk, h⟩, .refl⟩
    · simp only [Classical.not_forall, Classical.not_not] at h
      obtain ⟨j, hj, hr⟩ := h
      obtain ⟨i, hi, hr'⟩ := ih j hj (by omega)
      exact ⟨i, hi, hr'.trans hr⟩
theorem head_uniq {adj : Adj} {n : Nat} (hs : ∀ i k, adj i k = adj k i) {i j k : Nat} (hi : i ∈ heads adj n) (hj : j ∈ heads adj n) (h1 : Reach adj i k) (h2 : Reach adj j k) : i = j := by
  rw [heads_mem] at hi hj
  rcases Nat.lt_trichotomy i j with h | h | h
  · exact absurd (h1.trans (h2.symm hs)) (hj.2 i h)
  · exact h
  · exact absurd (h2.trans (h1.symm hs)) (hi.2 j h)
theorem heads_nodup {adj : Adj} {n : Nat} : (heads adj n).Nodup := by
  unfold heads
  exact (List.nodup_range).sublist List.filter_sublist
theorem comp_nodup {adj : Adj} {n i : Nat} : (comp adj n i).Nodup := by
  unfold comp
  exact (List.nodup_range).sublist List.filter_sublist
theorem flat_nodup {adj : Adj} {n : Nat} (hs : ∀ i k, adj i k = adj k i) {H : List Nat} (hn : H.Nodup) (hH : ∀ i ∈ H, i ∈ heads adj n) : (H.flatMap (comp adj n)).Nodup := by
  induction H with
  | nil => simp
  | cons i r ih =>
    rw [List.nodup_cons] at hn
    rw [List.flatMap_cons, List.nodup_append]
    refine ⟨comp_nodup, ih hn.2 (fun j hj => hH j (by simp [hj])), ?_⟩
    rintro a ha b hb rfl
    obtain ⟨j, hj, hm⟩ := List.mem_flatMap.1 hb
    have := head_uniq hs (hH i (by simp)) (hH j (by simp [hj])) (comp_mem.1 ha).2 (comp_mem.1 hm).2
    subst this
    exact hn.1 hj
/- the law of orders: H names the groups in any order -/
theorem orders_law {l d : List Item} {ps : List Patch} (hw : walkB l = true) {H : List Nat} (hH : H.Perm (heads (adjF ps) ps.length)) (f : Nat → Patch) (hf : ∀ i (h : i < ps.length), f i = ps[i]) :
    Run l ps d ↔ Run l ((H.flatMap (comp (adjF ps) ps.length)).map f) d := by
  have hs := adjF_symm ps
  have hHm : ∀ i, i ∈ H ↔ i ∈ heads (adjF ps) ps.length := fun i => hH.mem_iff
  have hHn : H.Nodup := (hH.nodup_iff).2 heads_nodup
  have hfn := flat_nodup hs hHn (fun i hi => (hHm i).1 hi)
  have hI : (List.range ps.length).map f = ps := by
    refine List.ext_getElem (by simp) ?_
    intro i h1 h2
    simp
    exact hf i h2
  have hmem : ∀ x, x ∈ List.range ps.length ↔ x ∈ H.flatMap (comp (adjF ps) ps.length) := by
    intro x
    rw [List.mem_range, List.mem_flatMap]
    constructor
    · intro h
      obtain ⟨i, hi, hr⟩ := head_of hs x h
      exact ⟨i, (hHm i).2 hi, comp_mem.2 ⟨h, hr⟩⟩
    · rintro ⟨i, _, hm⟩
      exact (comp_mem.1 hm).1
  have hadj : ∀ x y, x < ps.length → y < ps.length → commF (f x) (f y) = false → adjF ps x y = true := by
    intro x y hx hy hc
    unfold adjF
    rw [List.getElem?_eq_getElem hx, List.getElem?_eq_getElem hy]
    simp only [← hf x hx, ← hf y hy, hc]; rfl
  have hin : ∀ x y, x < y → x < ps.length → y < ps.length → commF (f x) (f y) = false → [x, y].Sublist (H.flatMap (comp (adjF ps) ps.length)) := by
    intro x y hxy hx hy hc
    obtain ⟨i, hi, hr⟩ := head_of hs x hx
    have hry := Reach.step hr (hadj x y hx hy hc)
    have h1 : [x, y].Sublist (comp (adjF ps) ps.length i) := by
      unfold comp
      have := (pair_range hxy hy).filter fun k => @decide (Reach (adjF ps) i k) (Classical.propDecidable _)
      simpa [hr, hry] using this
    refine h1.trans ?_
    obtain ⟨H1, H2, rfl⟩ := List.append_of_mem ((hHm i).2 hi)
    rw [List.flatMap_append, List.flatMap_cons]
    exact (List.sublist_append_left _ _).trans (List.sublist_append_right _ _)
  constructor
  · intro h
    rw [← hI] at h
    refine run_order f _ _ List.nodup_range hfn hmem ?_ l d hw h
    intro x y hxy hc hsub
    have hx : x < ps.length := by simpa using hsub.subset (show x ∈ [x, y] by simp)
    have hy : y < ps.length := by simpa using hsub.subset (show y ∈ [x, y] by simp)
    exact hin x y (range_pair hsub) hx hy hc
  · intro h
    rw [← hI]
    refine run_order f _ _ hfn List.nodup_range (fun x => (hmem x).symm) ?_ l d hw h
    intro x y hxy hc hsub
    have hx : x < ps.length := by simpa using (hmem x).2 (hsub.subset (show x ∈ [x, y] by simp))
    have hy : y < ps.length := by simpa using (hmem y).2 (hsub.subset (show y ∈ [x, y] by simp))
    rcases Nat.lt_or_gt_of_ne hxy with h | h
    · exact pair_range h hy
    · exact absurd (hin y x h hy hx (by rw [commF_symm]; exact hc)) (pair_once hfn hsub)
end Go.Proofs.Ytfolcjkednmkoaa
namespace Go.Proofs.Ytfolcjkednmkoaa
structure GroupsOk (adj : Adj) (n : Nat) (G : List (List Nat)) : Prop where
  ne : ∀ g ∈ G, g ≠ []
  lt : ∀ g ∈ G, ∀ x ∈ g, x < n
  inc : ∀ g ∈ G, g.Pairwise (· < ·)
  hd : G.Pairwise fun g h => ∀ a ∈ g.head?, ∀ b ∈ h.head?, a < b
  one : ∀ (i j : Nat) (g h : List Nat), G[i]? = some g → G[j]? = some h → ∀ x, x ∈ g → x ∈ h → i = j
  all : ∀ x, x < n → ∃ (i : Nat) (g : List Nat), G[i]? = some g ∧ x ∈ g
  far : ∀ g ∈ G, ∀ x ∈ g, ∀ y, y < n → (adj x y = true → y ∈ g)
  nb : ∀ g ∈ G, ∀ x ∈ g, (1 < g.length ↔ ∃ k, k < n ∧ k ≠ x ∧ adj x k = true)
  sum : (G.map List.length).sum = n
theorem nodup_inj {l : List Nat} (h : l.Nodup) {i j : Nat} (hi : i < l.length) (hj : j < l.length) (e : l[i] = l[j]) : i = j := by
  rcases Nat.lt_trichotomy i j with hl | hl | hl
  · exact absurd e (List.pairwise_iff_getElem.1 h i j hi hj hl)
  · exact hl
  · exact absurd e.symm (List.pairwise_iff_getElem.1 h j i hj hi hl)
theorem comp_head {adj : Adj} (hs : ∀ i k, adj i k = adj k i) {n i : Nat} (h : i ∈ heads adj n) : (comp adj n i).head? = some i := by
  rw [heads_mem] at h
  cases hc : (comp adj n i) with
  | nil =>
    have : i ∈ comp adj n i := comp_mem.2 ⟨h.1, .refl⟩
    rw [hc] at this
    simp at this
  | cons a r =>
    have ha : a ∈ comp adj n i := by rw [hc]; simp
    have hi : i ∈ comp adj n i := comp_mem.2 ⟨h.1, .refl⟩
    have hp : (comp adj n i).Pairwise (· < ·) := by
      unfold comp
      exact (List.pairwise_lt_range (n := n)).sublist List.filter_sublist
    rw [hc] at hi hp
    rw [List.pairwise_cons] at hp
    rcases List.mem_cons.1 hi with e | e
    · rw [e]; rfl
    · exact absurd ((comp_mem.1 ha).2.symm hs) (h.2 a (hp.1 i e))
theorem reach_nb {adj : Adj} {x y : Nat} (h : Reach adj x y) : x = y ∨ ∃ k, k ≠ x ∧ adj x k = true := by
  induction h with
  | refl => exact .inl rfl
  | @step a b _ h ih =>
    rcases ih with e | e
    · by_cases hb : x = b
      · exact .inl hb
      · exact .inr ⟨b, Ne.symm hb, by rw [e]; exact h⟩
    · exact .inr e
theorem groups_ok (adj : Adj) (n : Nat) (hadj : ∀ i k, adj i k = true → k < n) (hs : ∀ i k, adj i k = adj k i) : GroupsOk adj n (groupsF adj n) := by
  rw [groupsF_are adj n hadj hs]
  have hmem : ∀ g ∈ (heads adj n).map (comp adj n), ∃ i ∈ heads adj n, g = comp adj n i := by
    intro g hg
    obtain ⟨i, hi, rfl⟩ := List.mem_map.1 hg
    exact ⟨i, hi, rfl⟩
  have hgp : ∀ i, (comp adj n i).Pairwise (· < ·) := fun i => by
    unfold comp
    exact (List.pairwise_lt_range (n := n)).sublist List.filter_sublist
  refine ⟨?_, ?_, ?_, ?_, ?_, ?_, ?_, ?_, ?_⟩
  · intro g hg e
    obtain ⟨i, hi, rfl⟩ := hmem g hg
    have := comp_head hs hi
    rw [e] at this
    simp at this
  · intro g hg x hx
    obtain ⟨i, hi, rfl⟩ := hmem g hg
    exact (comp_mem.1 hx).1
  · intro g hg
    obtain ⟨i, hi, rfl⟩ := hmem g hg
    exact hgp i
  · have hp : (heads adj n).Pairwise (· < ·) := by
      unfold heads
      exact (List.pairwise_lt_range (n := n)).sublist List.filter_sublist
    rw [List.pairwise_map]
    refine hp.imp_of_mem ?_
    intro i j hi hj hij a ha b hb
    rw [comp_head hs hi] at ha
    rw [comp_head hs hj] at hb
    simp at ha hb
    omega
  · intro i j g h hg hh x hx hy
    rw [List.getElem?_map] at hg hh
    cases hi : (heads adj n)[i]? with
    | none => rw [hi] at hg; cases hg
    | some u =>
      cases hj : (heads adj n)[j]? with
      | none => rw [hj] at hh; cases hh
      | some v =>
        rw [hi] at hg
        rw [hj] at hh
        simp at hg hh
        subst hg hh
        have hu := List.mem_of_getElem? hi
        have hv := List.mem_of_getElem? hj
        have e := head_uniq hs hu hv (comp_mem.1 hx).2 (comp_mem.1 hy).2
        subst e
        obtain ⟨hi1, hi2⟩ := List.getElem?_eq_some_iff.1 hi
        obtain ⟨hj1, hj2⟩ := List.getElem?_eq_some_iff.1 hj
        exact nodup_inj heads_nodup hi1 hj1 (hi2.trans hj2.symm)
  · intro x hx
    obtain ⟨i, hi, hr⟩ := head_of hs x hx
    obtain ⟨k, hk, e⟩ := List.getElem_of_mem hi
    refine ⟨k, comp adj n i, ?_, comp_mem.2 ⟨hx, hr⟩⟩
    rw [List.getElem?_map, List.getElem?_eq_getElem hk, e]
    rfl
  · intro g hg x hx y hy ha
    obtain ⟨i, hi, rfl⟩ := hmem g hg
    exact comp_mem.2 ⟨hy, .step (comp_mem.1 hx).2 ha⟩
  · intro g hg x hx
    obtain ⟨i, hi, rfl⟩ := hmem g hg
    constructor
    · intro h
      obtain ⟨y, hy, hyx⟩ : ∃ y ∈ comp adj n i, y ≠ x := by
        match hc : comp adj n i, h with
        | [], h => simp at h
        | [_], h => simp at h
        | a :: b :: r, _ =>
          have hp := hgp i
          rw [hc] at hp
          rw [List.pairwise_cons] at hp
          have hab := hp.1 b (by simp)
          by_cases e : a = x
          · exact ⟨b, by simp, by omega⟩
          · exact ⟨a, by simp, e⟩
      have hr := ((comp_mem.1 hx).2.symm hs).trans (comp_mem.1 hy).2
      rcases reach_nb hr with e | ⟨k, h1, h2⟩
      · exact absurd e.symm hyx
      · exact ⟨k, hadj _ _ h2, h1, h2⟩
    · rintro ⟨k, hk, hkx, ha⟩
      have hkm : k ∈ comp adj n i := comp_mem.2 ⟨hk, .step (comp_mem.1 hx).2 ha⟩
      match hc : comp adj n i with
      | [] => rw [hc] at hx; simp at hx
      | [a] =>
        rw [hc] at hx hkm
        simp at hx hkm
        omega
      | a :: b :: r => simp
  · have h1 := flat_nodup hs (heads_nodup (adj := adj) (n := n)) (fun i hi => hi)
    have h2 : ∀ x, x ∈ (heads adj n).flatMap (comp adj n) ↔ x ∈ List.range n := by
      intro x
      rw [List.mem_range, List.mem_flatMap]
      constructor
      · rintro ⟨i, _, hm⟩
        exact (comp_mem.1 hm).1
      · intro h
        obtain ⟨i, hi, hr⟩ := head_of hs x h
        exact ⟨i, hi, comp_mem.2 ⟨h, hr⟩⟩
    have h3 := ((List.perm_ext_iff_of_nodup h1 List.nodup_range).2 h2).length_eq
    rw [List.length_flatMap, List.length_range] at h3
    rw [List.map_map]
    exact h3
/- where a number lies -/
def posG (G : List (List Nat)) (x : Nat) : Nat := G.findIdx fun g => g.contains x
theorem posG_eq {adj : Adj} {n : Nat} {G : List (List Nat)} (h : GroupsOk adj n G) {i : Nat} {g : List Nat} (hg : G[i]? = some g) {x : Nat} (hx : x ∈ g) : posG G x = i := by
  obtain ⟨hi, e⟩ := List.getElem?_eq_some_iff.1 hg
  have hlt : posG G x < G.length := List.findIdx_lt_length_of_exists ⟨g, List.mem_of_getElem? hg, by simpa using hx⟩
  have hp := List.findIdx_getElem (xs := G) (p := fun g => g.contains x) (w := show G.findIdx (fun g => g.contains x) < G.length from hlt)
  have hm : x ∈ G[posG G x]'hlt := by
    have hp' : ((G[posG G x]'hlt).contains x) = true := hp
    simpa using hp'
  exact h.one _ _ _ _ (List.getElem?_eq_getElem hlt) hg x hm hx
theorem posG_lt {adj : Adj} {n : Nat} {G : List (List Nat)} (h : GroupsOk adj n G) {x : Nat} (hx : x < n) : ∃ g, G[posG G x]? = some g ∧ x ∈ g := by
  obtain ⟨i, g, hg, hm⟩ := h.all x hx
  rw [posG_eq h hg hm]
  exact ⟨g, hg, hm⟩
/- what is noted when i groups and k of the next one are passed -/
def ofAt (G : List (List Nat)) (n i k : Nat) : List Nat := (List.range n).map fun x => if posG G x < i ∨ (posG G x = i ∧ x ∈ (G.getD i []).take k) then posG G x + 1 else 0
@[simp] theorem ofAt_len (G : List (List Nat)) (n i k : Nat) : (ofAt G n i k).length = n := by simp [ofAt]
theorem ofAt_zero (G : List (List Nat)) (n : Nat) : ofAt G n 0 0 = List.replicate n 0 := by
  refine List.ext_getElem (by simp) ?_
  intro i h1 h2
  simp [ofAt]
theorem ofAt_fresh {adj : Adj} {n : Nat} {G : List (List Nat)} (h : GroupsOk adj n G) {i k x : Nat} {g : List Nat} (hg : G[i]? = some g) (hx : g[k]? = some x) : (ofAt G n i k)[x]? = some 0 := by
  have hgm := List.mem_of_getElem? hg
  have hxm := List.mem_of_getElem? hx
  have hxn := h.lt g hgm x hxm
  have hp := posG_eq h hg hxm
  have hnd : g.Nodup := (h.inc g hgm).imp (fun h => Nat.ne_of_lt h)
  unfold ofAt
  rw [List.getElem?_map, List.getElem?_range hxn, Option.map_some, if_neg]
  rw [hp]
  rintro (h1 | ⟨_, h1⟩)
  · omega
  · rw [List.getD_eq_getElem?_getD, hg, Option.getD_some] at h1
    obtain ⟨j, hj, e⟩ := List.getElem_of_mem h1
    simp at hj e
    obtain ⟨hk1, hk2⟩ := List.getElem?_eq_some_iff.1 hx
    have := nodup_inj hnd (by omega) hk1 (e.trans hk2.symm)
    omega
theorem ofAt_set {adj : Adj} {n : Nat} {G : List (List Nat)} (h : GroupsOk adj n G) {i k x : Nat} {g : List Nat} (hg : G[i]? = some g) (hx : g[k]? = some x) : (ofAt G n i k).set x (i + 1) = ofAt G n i (k + 1) := by
  have hgm := List.mem_of_getElem? hg
  have hxm := List.mem_of_getElem? hx
  have hxn := h.lt g hgm x hxm
  have hp := posG_eq h hg hxm
  obtain ⟨hk1, hk2⟩ := List.getElem?_eq_some_iff.1 hx
  refine List.ext_getElem (by simp) ?_
  intro y h1 h2
  rw [List.getElem_set]
  have hgd : G.getD i [] = g := by rw [List.getD_eq_getElem?_getD, hg, Option.getD_some]
  by_cases e : x = y
  · subst e
    rw [if_pos rfl]
    simp only [ofAt, List.getElem_map, List.getElem_range, hgd, hp]
    rw [if_pos]
    refine .inr ⟨trivial, ?_⟩
    rw [List.take_add_one, hx]
    simp
  · rw [if_neg e]
    simp only [ofAt, List.getElem_map, List.getElem_range, hgd]
    have : y ∈ g.take (k + 1) ↔ y ∈ g.take k := by
      rw [List.take_add_one, hx]
      simp
      intro e'
      exact absurd e'.symm e
    simp only [this]
theorem ofAt_next {adj : Adj} {n : Nat} {G : List (List Nat)} (h : GroupsOk adj n G) {i : Nat} {g : List Nat} (hg : G[i]? = some g) : ofAt G n i g.length = ofAt G n (i + 1) 0 := by
  refine List.ext_getElem (by simp) ?_
  intro y h1 h2
  have hy : y < n := by simpa using h1
  have hgd : G.getD i [] = g := by rw [List.getD_eq_getElem?_getD, hg, Option.getD_some]
  simp only [ofAt, List.getElem_map, List.getElem_range, hgd, List.take_length, List.take_zero, List.not_mem_nil, and_false, or_false]
  obtain ⟨g', hg', hm⟩ := posG_lt h hy
  by_cases e : posG G y = i
  · rw [e, hg] at hg'
    cases hg'
    rw [if_pos (.inr ⟨e, hm⟩), if_pos (by omega)]
  · by_cases e2 : posG G y < i
    · rw [if_pos (.inl e2), if_pos (by omega)]
    · rw [if_neg (by rintro (h | h) <;> omega), if_neg (by omega)]
theorem ofAt_end {adj : Adj} {n : Nat} {G : List (List Nat)} (h : GroupsOk adj n G) {x : Nat} (hx : x < n) : (ofAt G n G.length 0)[x]? = some (posG G x + 1) := by
  obtain ⟨g, hg, _⟩ := posG_lt h hx
  have := (List.getElem?_eq_some_iff.1 hg).1
  unfold ofAt
  rw [List.getElem?_map, List.getElem?_range hx, Option.map_some, if_pos (.inl this)]
/- how many have been passed -/
def sumG (G : List (List Nat)) (i : Nat) : Nat := ((G.take i).map List.length).sum
theorem sumG_next {G : List (List Nat)} {i : Nat} {g : List Nat} (hg : G[i]? = some g) : sumG G (i + 1) = sumG G i + g.length := by
  unfold sumG
  rw [List.take_add_one, hg]
  simp
theorem sumG_end {adj : Adj} {n : Nat} {G : List (List Nat)} (h : GroupsOk adj n G) : sumG G G.length = n := by
  unfold sumG
  rw [List.take_length]
  exact h.sum
/- the law of one further patch -/
theorem adj_more {l : List Patch} {p : Patch} {i k : Nat} (hi : i < l.length) (hk : k < l.length) : adjF (l ++ [p]) i k = adjF l i k := by
  unfold adjF
  rw [List.getElem?_append_left hi, List.getElem?_append_left hk]
theorem reach_more {l : List Patch} {p : Patch} {i k : Nat} (hi : i < l.length) (h : Reach (adjF l) i k) : Reach (adjF (l ++ [p])) i k := by
  induction h with
  | refl => exact .refl
  | @step a b _ h ih =>
    obtain ⟨h1, h2⟩ := adjF_lt h
    exact .step ih (by rw [adj_more h1 h2]; exact h)
theorem reach_less {l : List Patch} {p : Patch} {i k : Nat} (hi : i < l.length) (h : Reach (adjF (l ++ [p])) i k) (hn : ¬ Reach (adjF (l ++ [p])) i l.length) : k < l.length ∧ Reach (adjF l) i k := by
  induction h with
  | refl => exact ⟨hi, .refl⟩
  | @step a b h0 h ih =>
    obtain ⟨h1, h2⟩ := adjF_lt h
    have hb : b ≠ l.length := fun e => hn (e ▸ Reach.step h0 h)
    have hbl : b < l.length := by simp at h2; omega
    exact ⟨hbl, .step ih.2 (by rw [← adj_more (p := p) ih.1 hbl]; exact h)⟩
theorem pos_same {l : List Patch} {i k : Nat} (hi : i < l.length) (hk : k < l.length) : posG (groupsF (adjF l) l.length) i = posG (groupsF (adjF l) l.length) k ↔ Reach (adjF l) i k := by
  have hadj : ∀ i k, adjF l i k = true → k < l.length := fun i k h => (adjF_lt h).2
  have hs := adjF_symm l
  have hok := groups_ok (adjF l) l.length hadj hs
  obtain ⟨g, hg, hm⟩ := posG_lt hok hi
  obtain ⟨g', hg', hm'⟩ := posG_lt hok hk
  have hcomp : ∀ (j : Nat) (g : List Nat), (groupsF (adjF l) l.length)[j]? = some g → ∃ c, g = comp (adjF l) l.length c := by
    intro j g hg
    rw [groupsF_are _ _ hadj hs, List.getElem?_map] at hg
    cases hj : (heads (adjF l) l.length)[j]? with
    | none => rw [hj] at hg; cases hg
    | some u => rw [hj] at hg; simp at hg; exact ⟨u, hg.symm⟩
  constructor
  · intro e
    rw [e, hg'] at hg
    cases hg
    obtain ⟨c, rfl⟩ := hcomp _ _ hg'
    exact ((comp_mem.1 hm).2.symm hs).trans (comp_mem.1 hm').2
  · intro hr
    obtain ⟨c, rfl⟩ := hcomp _ _ hg
    exact (posG_eq hok hg (comp_mem.2 ⟨hk, (comp_mem.1 hm).2.trans hr⟩)).symm
theorem further_law (l : List Patch) (p : Patch) {i k : Nat} (hi : i < l.length) (hk : k < l.length) :
    (posG (groupsF (adjF l) l.length) i = posG (groupsF (adjF l) l.length) k → posG (groupsF (adjF (l ++ [p])) (l.length + 1)) i = posG (groupsF (adjF (l ++ [p])) (l.length + 1)) k) ∧
    (posG (groupsF (adjF (l ++ [p])) (l.length + 1)) i = posG (groupsF (adjF (l ++ [p])) (l.length + 1)) k → posG (groupsF (adjF l) l.length) i = posG (groupsF (adjF l) l.length) k ∨ posG (groupsF (adjF (l ++ [p])) (l.length + 1)) i = posG (groupsF (adjF (l ++ [p])) (l.length + 1)) l.length) := by
  have e : (l ++ [p]).length = l.length + 1 := by simp
  have key : ∀ x y, x < l.length + 1 → y < l.length + 1 → (posG (groupsF (adjF (l ++ [p])) (l.length + 1)) x = posG (groupsF (adjF (l ++ [p])) (l.length + 1)) y ↔ Reach (adjF (l ++ [p])) x y) := by
    intro x y hx hy
    have := pos_same (l := l ++ [p]) (i := x) (k := y) (by simpa using hx) (by simpa using hy)
    rw [e] at this
    exact this
  rw [key i k (by omega) (by omega), key i l.length (by omega) (by omega), pos_same hi hk]
  constructor
  · exact fun h => reach_more hi h
  · intro h
    by_cases hn : Reach (adjF (l ++ [p])) i l.length
    · exact .inr hn
    · exact .inl (reach_less hi h hn).2
end Go.Proofs.Ytfolcjkednmkoaa
