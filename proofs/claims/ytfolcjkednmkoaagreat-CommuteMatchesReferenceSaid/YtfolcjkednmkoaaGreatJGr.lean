/- Groups of patches whose order matters: a search in depth finds what hangs together. Patches in another order that keeps those in order that do not commute. What the groups contain: each number once, in order. The reference's groups: labels that are joined; they are the same groups. And its Commute is the same. -/
import Derived.Test.YtfolcjkednmkoaaGreatJState
set_option linter.unusedVariables false
set_option linter.unusedSimpArgs false
namespace Go.Proofs.YtfolcjkednmkoaaGreat
abbrev Adj := Nat → Nat → Bool
def adjF (l : List Patch) : Adj := fun i k => match l[i]?, l[k]? with
 | some a, some b => !commF a b
 | _, _ => false
theorem adjF_lt {l : List Patch} {i k : Nat} (h : adjF l i k = true) : i < l.length ∧ k < l.length := by
 unfold adjF at h
 split at h
 · rename_i h1 h2
   exact ⟨(List.getElem?_eq_some_iff.1 h1).1, (List.getElem?_eq_some_iff.1 h2).1⟩
 · cases h
theorem adjF_symm (l : List Patch) (i k : Nat) : adjF l i k = adjF l k i := by
 unfold adjF
 cases l[i]? <;> cases l[k]? <;> simp [commF_symm]
/- what is seen, and the group -/
abbrev VSt := List Bool × List Nat
def seenF (s : List Bool) (k : Nat) : Bool := s.getD k true
def vis (adj : Adj) (n : Nat) : Nat → Nat → VSt → VSt
 | 0, _, st => st
 | f + 1, i, st => (List.range n).foldl (fun st k => if !seenF st.1 k && adj i k then vis adj n f k st else st) (st.1.set i true, st.2 ++ [i])
inductive Reach (adj : Adj) (i : Nat) : Nat → Prop
 | refl : Reach adj i i
 | step {x k : Nat} : Reach adj i x → adj x k = true → Reach adj i k
theorem Reach.trans {adj : Adj} {i j k : Nat} (h1 : Reach adj i j) (h2 : Reach adj j k) : Reach adj i k := by
 induction h2 with
 | refl => exact h1
 | step _ h ih => exact .step ih h
theorem Reach.symm {adj : Adj} (hs : ∀ i k, adj i k = adj k i) {i k : Nat} (h : Reach adj i k) : Reach adj k i := by
 induction h with
 | refl => exact .refl
 | @step x k _ h ih => exact Reach.trans (.step .refl (by rw [hs]; exact h)) ih
theorem seen_set {s : List Bool} {i k : Nat} (hi : i < s.length) : seenF (s.set i true) k = (seenF s k || decide (k = i)) := by
 unfold seenF
 rw [List.getD_eq_getElem?_getD, List.getD_eq_getElem?_getD, List.getElem?_set]
 by_cases h : i = k
 · subst h; simp [hi]
 · simp [h, Ne.symm h]
def left (n : Nat) (s : List Bool) : Nat := ((List.range n).filter fun k => !seenF s k).length
theorem left_mono {n : Nat} {s s' : List Bool} (h : ∀ k, seenF s k = true → seenF s' k = true) : left n s' ≤ left n s := by
 unfold left
 rw [← List.countP_eq_length_filter, ← List.countP_eq_length_filter]
 refine List.countP_mono_left fun k _ hk => ?_
 simp only [Bool.not_eq_true'] at hk ⊢
 cases hs : seenF s k with
 | false => rfl
 | true => rw [h k hs] at hk; cases hk
theorem left_set {n : Nat} {s : List Bool} {i : Nat} (hn : s.length = n) (hi : i < n) (hu : seenF s i = false) : left n (s.set i true) < left n s := by
 unfold left
 have e : ((List.range n).filter fun k => !seenF (s.set i true) k) = ((List.range n).filter fun k => !seenF s k).filter fun k => k != i := by
  rw [List.filter_filter]
  congr 1
  funext k
  rw [seen_set (by omega)]
  by_cases h : k = i <;> simp [h]
 rw [e]
 refine List.length_filter_lt_length_iff_exists.2 ⟨i, ?_, by simp⟩
 rw [List.mem_filter, List.mem_range]
 exact ⟨hi, by simp [hu]⟩
/- what a visit has done -/
structure Visited (adj : Adj) (n i : Nat) (s s' : List Bool) (new : List Nat) : Prop where
 nd : new.Nodup
 ok : ∀ x ∈ new, x < n ∧ seenF s x = false ∧ Reach adj i x
 me : i ∈ new
 len : s'.length = n
 seen : ∀ k, seenF s' k = (seenF s k || decide (k ∈ new))
 closed : ∀ x ∈ new, ∀ k, adj x k = true → seenF s' k = true
theorem vis_ok (adj : Adj) (n : Nat) (hadj : ∀ i k, adj i k = true → k < n) : ∀ (f : Nat) (s : List Bool) (g : List Nat) (i : Nat), s.length = n → i < n → seenF s i = false → left n s ≤ f →
 ∃ new, (vis adj n f i (s, g)).2 = g ++ new ∧ Visited adj n i s (vis adj n f i (s, g)).1 new := by
 intro f
 induction f with
 | zero =>
   intro s g i hn hi hu hf
   have := left_set hn hi hu
   omega
 | succ f ih =>
   intro s g i hn hi hu hf
   have hlt := left_set hn hi hu
   have key : ∀ m, m ≤ n → ∃ new, ((List.range m).foldl (fun st k => if !seenF st.1 k && adj i k then vis adj n f k st else st) (s.set i true, g ++ [i])).2 = g ++ (i :: new) ∧
    (i :: new).Nodup ∧ (∀ x ∈ new, x < n ∧ seenF s x = false ∧ Reach adj i x) ∧
    ((List.range m).foldl (fun st k => if !seenF st.1 k && adj i k then vis adj n f k st else st) (s.set i true, g ++ [i])).1.length = n ∧
    (∀ k, seenF ((List.range m).foldl (fun st k => if !seenF st.1 k && adj i k then vis adj n f k st else st) (s.set i true, g ++ [i])).1 k = (seenF s k || decide (k ∈ i :: new))) ∧
    (∀ x ∈ new, ∀ k, adj x k = true → seenF ((List.range m).foldl (fun st k => if !seenF st.1 k && adj i k then vis adj n f k st else st) (s.set i true, g ++ [i])).1 k = true) ∧
    (∀ k, k < m → adj i k = true → seenF ((List.range m).foldl (fun st k => if !seenF st.1 k && adj i k then vis adj n f k st else st) (s.set i true, g ++ [i])).1 k = true) := by
    intro m
    induction m with
    | zero =>
      intro _
      refine ⟨[], by simp, by simp, by simp, by simpa using hn, ?_, by simp, by simp⟩
      intro k
      rw [List.range_zero, List.foldl_nil, seen_set (by omega)]
      simp
    | succ m ihm =>
      intro hm
      obtain ⟨new, h1, h2, h3, h4, h5, h6, h7⟩ := ihm (by omega)
      rw [List.range_succ, List.foldl_append, List.foldl_cons, List.foldl_nil]
      generalize (List.range m).foldl (fun st k => if !seenF st.1 k && adj i k then vis adj n f k st else st) (s.set i true, g ++ [i]) = st at h1 h4 h5 h6 h7
      obtain ⟨s1, g1⟩ := st
      simp only at h1 h4 h5 h6 h7 ⊢
      by_cases hc : (!seenF s1 m && adj i m) = true
      · rw [if_pos hc]
        simp only [Bool.and_eq_true, Bool.not_eq_true'] at hc
        have hl : left n s1 ≤ f := by
         have : left n s1 ≤ left n (s.set i true) := by
          refine left_mono fun k hk => ?_
          rw [seen_set (by omega)] at hk
          rw [h5]
          simp only [Bool.or_eq_true, decide_eq_true_eq] at hk ⊢
          exact hk.imp id (fun e => by rw [e]; exact List.mem_cons_self)
         omega
        obtain ⟨new2, k1, k2⟩ := ih s1 g1 m h4 (by omega) hc.1 hl
        have hun : ∀ x, seenF s1 x = false → seenF s x = false ∧ x ∉ i :: new := by
         intro x hx
         rw [h5] at hx
         simp only [Bool.or_eq_false_iff, decide_eq_false_iff_not] at hx
         exact hx
        refine ⟨new ++ new2, ?_, ?_, ?_, k2.len, ?_, ?_, ?_⟩
        · rw [k1, h1]; simp
        · rw [← List.cons_append, List.nodup_append]
          refine ⟨h2, k2.nd, ?_⟩
          rintro a ha b hb rfl
          exact (hun a (k2.ok a hb).2.1).2 ha
        · intro x hx
          rcases List.mem_append.1 hx with hx | hx
          · exact h3 x hx
          · obtain ⟨j1, j2, j3⟩ := k2.ok x hx
            exact ⟨j1, (hun x j2).1, Reach.trans (.step .refl hc.2) j3⟩
        · intro k
          rw [k2.seen, h5, Bool.or_assoc]
          congr 1
          rw [Bool.eq_iff_iff]
          simp only [Bool.or_eq_true, decide_eq_true_eq, List.mem_cons, List.mem_append]
          constructor
          · rintro ((h | h) | h)
            · exact .inl h
            · exact .inr (.inl h)
            · exact .inr (.inr h)
          · rintro (h | h | h)
            · exact .inl (.inl h)
            · exact .inl (.inr h)
            · exact .inr h
        · intro x hx k hk
          rcases List.mem_append.1 hx with hx | hx
          · rw [k2.seen, h6 x hx k hk]; rfl
          · exact k2.closed x hx k hk
        · intro k hk ha
          by_cases e : k = m
          · subst e
            rw [k2.seen]
            simp [k2.me]
          · rw [k2.seen, h7 k (by omega) ha]; rfl
      · rw [if_neg hc]
        refine ⟨new, h1, h2, h3, h4, h5, h6, ?_⟩
        intro k hk ha
        by_cases e : k = m
        · subst e
          cases hs : seenF s1 k with
          | true => rfl
          | false => exact absurd (by simp [hs, ha]) hc
        · exact h7 k (by omega) ha
   obtain ⟨new, h1, h2, h3, h4, h5, h6, h7⟩ := key n (Nat.le_refl n)
   refine ⟨i :: new, h1, h2, ?_, List.mem_cons_self, h4, h5, ?_⟩
   · intro x hx
     rcases List.mem_cons.1 hx with rfl | hx
     · exact ⟨hi, hu, .refl⟩
     · exact h3 x hx
   · intro x hx k hk
     rcases List.mem_cons.1 hx with rfl | hx
     · exact h7 k (hadj _ _ hk) hk
     · exact h6 x hx k hk
/- the groups -/
def srt (n : Nat) (g : List Nat) : List Nat := (List.range n).filter fun k => g.contains k
def groupsS (adj : Adj) (n m : Nat) : List Bool × List (List Nat) :=
 (List.range m).foldl (fun st i => if seenF st.1 i then st else ((vis adj n n i (st.1, [])).1, st.2 ++ [srt n (vis adj n n i (st.1, [])).2])) (List.replicate n false, [])
def groupsF (adj : Adj) (n : Nat) : List (List Nat) := (groupsS adj n n).2
open Classical in
noncomputable def comp (adj : Adj) (n i : Nat) : List Nat := (List.range n).filter fun k => decide (Reach adj i k)
open Classical in
noncomputable def heads (adj : Adj) (m : Nat) : List Nat := (List.range m).filter fun i => decide (∀ k, k < i → ¬ Reach adj k i)
theorem heads_yes {adj : Adj} {m : Nat} (h : ∀ k, k < m → ¬ Reach adj k m) : heads adj (m + 1) = heads adj m ++ [m] := by
 unfold heads
 rw [List.range_succ, List.filter_append, List.filter_cons, if_pos (by simpa using h)]; rfl
theorem heads_no {adj : Adj} {m : Nat} (h : ¬ ∀ k, k < m → ¬ Reach adj k m) : heads adj (m + 1) = heads adj m := by
 unfold heads
 rw [List.range_succ, List.filter_append, List.filter_cons, if_neg (by simpa using h)]; simp
/- what the groups are -/
theorem groups_are (adj : Adj) (n : Nat) (hadj : ∀ i k, adj i k = true → k < n) (hs : ∀ i k, adj i k = adj k i) (m : Nat) (hm : m ≤ n) :
 (groupsS adj n m).1.length = n ∧ (∀ k, k < n → (seenF (groupsS adj n m).1 k = true ↔ ∃ j, j < m ∧ Reach adj j k)) ∧ (groupsS adj n m).2 = (heads adj m).map (comp adj n) := by
 induction m with
 | zero =>
   refine ⟨by simp [groupsS], ?_, by simp [groupsS, heads]⟩
   intro k hk
   simp [groupsS, seenF, List.getD_eq_getElem?_getD, hk]
 | succ m ih =>
   obtain ⟨h1, h2, h3⟩ := ih (by omega)
   have e : groupsS adj n (m + 1) = if seenF (groupsS adj n m).1 m then groupsS adj n m else ((vis adj n n m ((groupsS adj n m).1, [])).1, (groupsS adj n m).2 ++ [srt n (vis adj n n m ((groupsS adj n m).1, [])).2]) := by
    unfold groupsS
    rw [List.range_succ, List.foldl_append, List.foldl_cons, List.foldl_nil]
   rw [e]
   cases hsn : seenF (groupsS adj n m).1 m with
   | true =>
     rw [if_pos rfl]
     obtain ⟨j, hj, hr⟩ := (h2 m (by omega)).1 hsn
     rw [heads_no (fun h => h j hj hr)]
     refine ⟨h1, ?_, h3⟩
     intro k hk
     rw [h2 k hk]
     constructor
     · rintro ⟨i, hi, hr'⟩; exact ⟨i, by omega, hr'⟩
     · rintro ⟨i, hi, hr'⟩
       by_cases e : i = m
       · subst e; exact ⟨j, hj, hr.trans hr'⟩
       · exact ⟨i, by omega, hr'⟩
   | false =>
     rw [if_neg (by simp)]
     have hno : ∀ k, k < m → ¬ Reach adj k m := by
      intro k hk hr
      rw [(h2 m (by omega)).2 ⟨k, hk, hr⟩] at hsn
      cases hsn
     rw [heads_yes hno]
     have hleft : left n (groupsS adj n m).1 ≤ n := by
      unfold left
      refine Nat.le_trans (List.length_filter_le _ _) ?_
      simp
     obtain ⟨new, k1, k2⟩ := vis_ok adj n hadj n (groupsS adj n m).1 [] m h1 (by omega) hsn hleft
     rw [List.nil_append] at k1
     have hcl : ∀ x, x < n → seenF (groupsS adj n m).1 x = false → ∀ k, adj x k = true → seenF (groupsS adj n m).1 k = false := by
      intro x hx hxs k hk
      cases hks : seenF (groupsS adj n m).1 k with
      | false => rfl
      | true =>
        obtain ⟨j, hj, hr⟩ := (h2 k (hadj _ _ hk)).1 hks
        rw [(h2 x hx).2 ⟨j, hj, .step hr (by rw [hs]; exact hk)⟩] at hxs
        cases hxs
     have hnew : ∀ k, k ∈ new ↔ Reach adj m k := by
      intro k
      constructor
      · exact fun h => (k2.ok k h).2.2
      · intro h
        induction h with
        | refl => exact k2.me
        | @step x k hr ha ih =>
          have hc := k2.closed x ih k ha
          rw [k2.seen, hcl x (k2.ok x ih).1 (k2.ok x ih).2.1 k ha] at hc
          simpa using hc
     refine ⟨k2.len, ?_, ?_⟩
     · intro k hk
       rw [k2.seen]
       simp only [Bool.or_eq_true, decide_eq_true_eq, h2 k hk, hnew]
       constructor
       · rintro (⟨j, hj, hr⟩ | h)
         · exact ⟨j, by omega, hr⟩
         · exact ⟨m, by omega, h⟩
       · rintro ⟨j, hj, hr⟩
         by_cases e : j = m
         · subst e; exact .inr hr
         · exact .inl ⟨j, by omega, hr⟩
     · rw [List.map_append, h3, k1]
       congr 1
       simp only [List.map_cons, List.map_nil]
       congr 1
       unfold srt comp
       refine congrArg (fun z => [z]) (List.filter_congr fun k _ => ?_)
       rw [Bool.eq_iff_iff]
       simp [hnew]
theorem groupsF_are (adj : Adj) (n : Nat) (hadj : ∀ i k, adj i k = true → k < n) (hs : ∀ i k, adj i k = adj k i) : groupsF adj n = (heads adj n).map (comp adj n) := (groups_are adj n hadj hs n (Nat.le_refl n)).2.2
end Go.Proofs.YtfolcjkednmkoaaGreat
namespace Go.Proofs.YtfolcjkednmkoaaGreat
/- two lists of indices in which those keep their order that do not commute -/
/- groups in another order -/
theorem comp_mem {adj : Adj} {n i k : Nat} : k ∈ comp adj n i ↔ k < n ∧ Reach adj i k := by
 unfold comp; simp
theorem heads_mem {adj : Adj} {n i : Nat} : i ∈ heads adj n ↔ i < n ∧ ∀ k, k < i → ¬ Reach adj k i := by
 unfold heads; simp
theorem head_of {adj : Adj} {n : Nat} (hs : ∀ i k, adj i k = adj k i) (k : Nat) (hk : k < n) : ∃ i ∈ heads adj n, Reach adj i k := by
 induction k using Nat.strongRecOn with
 | _ k ih =>
   by_cases h : ∀ j, j < k → ¬ Reach adj j k
   · exact ⟨k, heads_mem.2 ⟨hk, h⟩, .refl⟩
   · simp only [Classical.not_forall, Classical.not_not] at h
     obtain ⟨j, hj, hr⟩ := h
     obtain ⟨i, hi, hr'⟩ := ih j hj (by omega)
     exact ⟨i, hi, hr'.trans hr⟩
theorem head_uniq {adj : Adj} {n : Nat} (hs : ∀ i k, adj i k = adj k i) {i j k : Nat} (hi : i ∈ heads adj n) (hj : j ∈ heads adj n) (h1 : Reach adj i k) (h2 : Reach adj j k) : i = j := by
 rw [heads_mem] at hi hj
 rcases Nat.lt_trichotomy i j with h | h | h
 · exact absurd (h1.trans (h2.symm hs)) (hj.2 i h)
 · exact h
 · exact absurd (h2.trans (h1.symm hs)) (hi.2 j h)
theorem heads_nodup {adj : Adj} {n : Nat} : (heads adj n).Nodup := by
 unfold heads
 exact (List.nodup_range).sublist List.filter_sublist
theorem comp_nodup {adj : Adj} {n i : Nat} : (comp adj n i).Nodup := by
 unfold comp
 exact (List.nodup_range).sublist List.filter_sublist
theorem flat_nodup {adj : Adj} {n : Nat} (hs : ∀ i k, adj i k = adj k i) {H : List Nat} (hn : H.Nodup) (hH : ∀ i ∈ H, i ∈ heads adj n) : (H.flatMap (comp adj n)).Nodup := by
 induction H with
 | nil => simp
 | cons i r ih =>
   rw [List.nodup_cons] at hn
   rw [List.flatMap_cons, List.nodup_append]
   refine ⟨comp_nodup, ih hn.2 (fun j hj => hH j (by simp [hj])), ?_⟩
   rintro a ha b hb rfl
   obtain ⟨j, hj, hm⟩ := List.mem_flatMap.1 hb
   have := head_uniq hs (hH i (by simp)) (hH j (by simp [hj])) (comp_mem.1 ha).2 (comp_mem.1 hm).2
   subst this
   exact hn.1 hj
/- the law of orders: H names the groups in any order -/
end Go.Proofs.YtfolcjkednmkoaaGreat
namespace Go.Proofs.YtfolcjkednmkoaaGreat
structure GroupsOk (adj : Adj) (n : Nat) (G : List (List Nat)) : Prop where
 ne : ∀ g ∈ G, g ≠ []
 lt : ∀ g ∈ G, ∀ x ∈ g, x < n
 inc : ∀ g ∈ G, g.Pairwise (· < ·)
 hd : G.Pairwise fun g h => ∀ a ∈ g.head?, ∀ b ∈ h.head?, a < b
 one : ∀ (i j : Nat) (g h : List Nat), G[i]? = some g → G[j]? = some h → ∀ x, x ∈ g → x ∈ h → i = j
 all : ∀ x, x < n → ∃ (i : Nat) (g : List Nat), G[i]? = some g ∧ x ∈ g
 far : ∀ g ∈ G, ∀ x ∈ g, ∀ y, y < n → (adj x y = true → y ∈ g)
 nb : ∀ g ∈ G, ∀ x ∈ g, (1 < g.length ↔ ∃ k, k < n ∧ k ≠ x ∧ adj x k = true)
 sum : (G.map List.length).sum = n
theorem nodup_inj {l : List Nat} (h : l.Nodup) {i j : Nat} (hi : i < l.length) (hj : j < l.length) (e : l[i] = l[j]) : i = j := by
 rcases Nat.lt_trichotomy i j with hl | hl | hl
 · exact absurd e (List.pairwise_iff_getElem.1 h i j hi hj hl)
 · exact hl
 · exact absurd e.symm (List.pairwise_iff_getElem.1 h j i hj hi hl)
theorem comp_head {adj : Adj} (hs : ∀ i k, adj i k = adj k i) {n i : Nat} (h : i ∈ heads adj n) : (comp adj n i).head? = some i := by
 rw [heads_mem] at h
 cases hc : (comp adj n i) with
 | nil =>
   have : i ∈ comp adj n i := comp_mem.2 ⟨h.1, .refl⟩
   rw [hc] at this
   simp at this
 | cons a r =>
   have ha : a ∈ comp adj n i := by rw [hc]; simp
   have hi : i ∈ comp adj n i := comp_mem.2 ⟨h.1, .refl⟩
   have hp : (comp adj n i).Pairwise (· < ·) := by
    unfold comp
    exact (List.pairwise_lt_range (n := n)).sublist List.filter_sublist
   rw [hc] at hi hp
   rw [List.pairwise_cons] at hp
   rcases List.mem_cons.1 hi with e | e
   · rw [e]; rfl
   · exact absurd ((comp_mem.1 ha).2.symm hs) (h.2 a (hp.1 i e))
theorem reach_nb {adj : Adj} {x y : Nat} (h : Reach adj x y) : x = y ∨ ∃ k, k ≠ x ∧ adj x k = true := by
 induction h with
 | refl => exact .inl rfl
 | @step a b _ h ih =>
   rcases ih with e | e
   · by_cases hb : x = b
     · exact .inl hb
     · exact .inr ⟨b, Ne.symm hb, by rw [e]; exact h⟩
   · exact .inr e
theorem groups_ok (adj : Adj) (n : Nat) (hadj : ∀ i k, adj i k = true → k < n) (hs : ∀ i k, adj i k = adj k i) : GroupsOk adj n (groupsF adj n) := by
 rw [groupsF_are adj n hadj hs]
 have hmem : ∀ g ∈ (heads adj n).map (comp adj n), ∃ i ∈ heads adj n, g = comp adj n i := by
  intro g hg
  obtain ⟨i, hi, rfl⟩ := List.mem_map.1 hg
  exact ⟨i, hi, rfl⟩
 have hgp : ∀ i, (comp adj n i).Pairwise (· < ·) := fun i => by
  unfold comp
  exact (List.pairwise_lt_range (n := n)).sublist List.filter_sublist
 refine ⟨?_, ?_, ?_, ?_, ?_, ?_, ?_, ?_, ?_⟩
 · intro g hg e
   obtain ⟨i, hi, rfl⟩ := hmem g hg
   have := comp_head hs hi
   rw [e] at this
   simp at this
 · intro g hg x hx
   obtain ⟨i, hi, rfl⟩ := hmem g hg
   exact (comp_mem.1 hx).1
 · intro g hg
   obtain ⟨i, hi, rfl⟩ := hmem g hg
   exact hgp i
 · have hp : (heads adj n).Pairwise (· < ·) := by
     unfold heads
     exact (List.pairwise_lt_range (n := n)).sublist List.filter_sublist
   rw [List.pairwise_map]
   refine hp.imp_of_mem ?_
   intro i j hi hj hij a ha b hb
   rw [comp_head hs hi] at ha
   rw [comp_head hs hj] at hb
   simp at ha hb
   omega
 · intro i j g h hg hh x hx hy
   rw [List.getElem?_map] at hg hh
   cases hi : (heads adj n)[i]? with
   | none => rw [hi] at hg; cases hg
   | some u =>
     cases hj : (heads adj n)[j]? with
     | none => rw [hj] at hh; cases hh
     | some v =>
       rw [hi] at hg
       rw [hj] at hh
       simp at hg hh
       subst hg hh
       have hu := List.mem_of_getElem? hi
       have hv := List.mem_of_getElem? hj
       have e := head_uniq hs hu hv (comp_mem.1 hx).2 (comp_mem.1 hy).2
       subst e
       obtain ⟨hi1, hi2⟩ := List.getElem?_eq_some_iff.1 hi
       obtain ⟨hj1, hj2⟩ := List.getElem?_eq_some_iff.1 hj
       exact nodup_inj heads_nodup hi1 hj1 (hi2.trans hj2.symm)
 · intro x hx
   obtain ⟨i, hi, hr⟩ := head_of hs x hx
   obtain ⟨k, hk, e⟩ := List.getElem_of_mem hi
   refine ⟨k, comp adj n i, ?_, comp_mem.2 ⟨hx, hr⟩⟩
   rw [List.getElem?_map, List.getElem?_eq_getElem hk, e]
   rfl
 · intro g hg x hx y hy ha
   obtain ⟨i, hi, rfl⟩ := hmem g hg
   exact comp_mem.2 ⟨hy, .step (comp_mem.1 hx).2 ha⟩
 · intro g hg x hx
   obtain ⟨i, hi, rfl⟩ := hmem g hg
   constructor
   · intro h
     obtain ⟨y, hy, hyx⟩ : ∃ y ∈ comp adj n i, y ≠ x := by
      match hc : comp adj n i, h with
      | [], h => simp at h
      | [_], h => simp at h
      | a :: b :: r, _ =>
        have hp := hgp i
        rw [hc] at hp
        rw [List.pairwise_cons] at hp
        have hab := hp.1 b (by simp)
        by_cases e : a = x
        · exact ⟨b, by simp, by omega⟩
        · exact ⟨a, by simp, e⟩
     have hr := ((comp_mem.1 hx).2.symm hs).trans (comp_mem.1 hy).2
     rcases reach_nb hr with e | ⟨k, h1, h2⟩
     · exact absurd e.symm hyx
     · exact ⟨k, hadj _ _ h2, h1, h2⟩
   · rintro ⟨k, hk, hkx, ha⟩
     have hkm : k ∈ comp adj n i := comp_mem.2 ⟨hk, .step (comp_mem.1 hx).2 ha⟩
     match hc : comp adj n i with
     | [] => rw [hc] at hx; simp at hx
     | [a] =>
       rw [hc] at hx hkm
       simp at hx hkm
       omega
     | a :: b :: r => simp
 · have h1 := flat_nodup hs (heads_nodup (adj := adj) (n := n)) (fun i hi => hi)
   have h2 : ∀ x, x ∈ (heads adj n).flatMap (comp adj n) ↔ x ∈ List.range n := by
    intro x
    rw [List.mem_range, List.mem_flatMap]
    constructor
    · rintro ⟨i, _, hm⟩
      exact (comp_mem.1 hm).1
    · intro h
      obtain ⟨i, hi, hr⟩ := head_of hs x h
      exact ⟨i, hi, comp_mem.2 ⟨h, hr⟩⟩
   have h3 := ((List.perm_ext_iff_of_nodup h1 List.nodup_range).2 h2).length_eq
   rw [List.length_flatMap, List.length_range] at h3
   rw [List.map_map]
   exact h3
/- where a number lies -/
def posG (G : List (List Nat)) (x : Nat) : Nat := G.findIdx fun g => g.contains x
/- what is noted when i groups and k of the next one are passed -/
def ofAt (G : List (List Nat)) (n i k : Nat) : List Nat := (List.range n).map fun x => if posG G x < i ∨ (posG G x = i ∧ x ∈ (G.getD i []).take k) then posG G x + 1 else 0
@[simp] theorem ofAt_len (G : List (List Nat)) (n i k : Nat) : (ofAt G n i k).length = n := by simp [ofAt]
/- how many have been passed -/
/- the law of one further patch -/
end Go.Proofs.YtfolcjkednmkoaaGreat
namespace Go.Proofs.YtfolcjkednmkoaaGreat
def lab (of : List Nat) (k : Nat) : Nat := of.getD k 0
def relab (i was now : Nat) (of : List Nat) : List Nat := of.mapIdx fun m x => if m ≤ i ∧ x = was then now else x
def rmerge (adj : Adj) (i k : Nat) (of : List Nat) : List Nat := if adj i k = false ∨ lab of k = lab of i then of else relab i (max (lab of i) (lab of k)) (min (lab of i) (lab of k)) of
def rstep (adj : Adj) (i k : Nat) (of : List Nat) : List Nat := (List.range k).foldl (fun of k => rmerge adj i k of) (of.set i i)
def rofs (adj : Adj) (n i : Nat) : List Nat := (List.range i).foldl (fun of i => rstep adj i i of) (List.replicate n 0)
def rgroup (of : List Nat) (i n : Nat) : List Nat := (List.range n).filter fun k => decide (i ≤ k) && lab of k == i
def rgroups (of : List Nat) (n m : Nat) : List (List Nat) := ((List.range m).filter fun i => lab of i == i).map fun i => rgroup of i n
theorem relab_len (i was now : Nat) (of : List Nat) : (relab i was now of).length = of.length := by simp [relab]
theorem relab_get {i was now : Nat} {of : List Nat} {k : Nat} (hk : k < of.length) : lab (relab i was now of) k = if k ≤ i ∧ lab of k = was then now else lab of k := by
 unfold lab relab
 rw [List.getD_eq_getElem?_getD, List.getD_eq_getElem?_getD, List.getElem?_mapIdx, List.getElem?_eq_getElem hk]
 simp
/- the edges that are seen -/
def edg (adj : Adj) (i k : Nat) : Adj := fun x y => adj x y && (decide (x < i ∧ y < i) || decide (x = i ∧ y < k) || decide (y = i ∧ x < k))
theorem edg_symm {adj : Adj} (hs : ∀ i k, adj i k = adj k i) (i k : Nat) : ∀ x y, edg adj i k x y = edg adj i k y x := by
 intro x y
 unfold edg
 rw [hs x y, Bool.eq_iff_iff]
 simp only [Bool.and_eq_true, Bool.or_eq_true, decide_eq_true_eq]
 constructor
 · rintro ⟨h, (h1 | h1) | h1⟩
   · exact ⟨h, .inl (.inl ⟨h1.2, h1.1⟩)⟩
   · exact ⟨h, .inr h1⟩
   · exact ⟨h, .inl (.inr h1)⟩
 · rintro ⟨h, (h1 | h1) | h1⟩
   · exact ⟨h, .inl (.inl ⟨h1.2, h1.1⟩)⟩
   · exact ⟨h, .inr h1⟩
   · exact ⟨h, .inl (.inr h1)⟩
theorem Reach.mono {adj adj' : Adj} (h : ∀ x y, adj x y = true → adj' x y = true) {i k : Nat} (hr : Reach adj i k) : Reach adj' i k := by
 induction hr with
 | refl => exact .refl
 | step _ ha ih => exact .step ih (h _ _ ha)
/- the labels are right for the edges seen, among the first m -/
structure Labs (adj : Adj) (m : Nat) (of : List Nat) : Prop where
 le : ∀ x, x < m → lab of x ≤ x
 reach : ∀ x, x < m → Reach adj (lab of x) x
 edge : ∀ x y, adj x y = true → x < m ∧ y < m ∧ lab of x = lab of y
theorem labs_merge {adj : Adj} (hs : ∀ i k, adj i k = adj k i) {i k : Nat} {of : List Nat} (hi : i < of.length) (hk : k < i) (h : Labs (edg adj i k) (i + 1) of) : Labs (edg adj i (k + 1)) (i + 1) (rmerge adj i k of) ∧ (rmerge adj i k of).length = of.length := by
 have hsub : ∀ x y, edg adj i k x y = true → edg adj i (k + 1) x y = true := by
  intro x y hxy
  unfold edg at hxy ⊢
  simp only [Bool.and_eq_true, Bool.or_eq_true, decide_eq_true_eq] at hxy ⊢
  refine ⟨hxy.1, ?_⟩
  have := hxy.2
  omega
 have hnew : ∀ x y, edg adj i (k + 1) x y = true → edg adj i k x y = true ∨ (adj i k = true ∧ ((x = i ∧ y = k) ∨ (x = k ∧ y = i))) := by
  intro x y hxy
  unfold edg at hxy ⊢
  simp only [Bool.and_eq_true, Bool.or_eq_true, decide_eq_true_eq] at hxy ⊢
  obtain ⟨ha, hxy⟩ := hxy
  by_cases e : (x < i ∧ y < i) ∨ (x = i ∧ y < k) ∨ (y = i ∧ x < k)
  · left; refine ⟨ha, ?_⟩; omega
  · right
    have : (x = i ∧ y = k) ∨ (x = k ∧ y = i) := by omega
    refine ⟨?_, this⟩
    rcases this with ⟨rfl, rfl⟩ | ⟨rfl, rfl⟩
    · exact ha
    · rw [hs]; exact ha
 unfold rmerge
 by_cases hc : adj i k = false ∨ lab of k = lab of i
 · rw [if_pos hc]
   refine ⟨⟨h.le, fun x hx => (h.reach x hx).mono hsub, ?_⟩, rfl⟩
   intro x y hxy
   rcases hnew x y hxy with h1 | ⟨h1, h2⟩
   · exact h.edge x y h1
   · have hl : lab of k = lab of i := hc.resolve_left (by rw [h1]; simp)
     rcases h2 with ⟨rfl, rfl⟩ | ⟨rfl, rfl⟩
     · exact ⟨by omega, by omega, hl.symm⟩
     · exact ⟨by omega, by omega, hl⟩
 · rw [if_neg hc]
   simp only [not_or, Bool.not_eq_false] at hc
   obtain ⟨ha, hne⟩ := hc
   refine ⟨?_, relab_len _ _ _ _⟩
   have hg : ∀ x, x < i + 1 → lab (relab i (max (lab of i) (lab of k)) (min (lab of i) (lab of k)) of) x = if lab of x = max (lab of i) (lab of k) then min (lab of i) (lab of k) else lab of x := by
    intro x hx
    rw [relab_get (by omega)]
    have : x ≤ i := by omega
    simp [this]
   have hik : edg adj i (k + 1) i k = true := by unfold edg; simp [ha]
   have hki : edg adj i (k + 1) k i = true := by rw [edg_symm hs]; exact hik
   have hsy := edg_symm hs i (k + 1)
   have ri : Reach (edg adj i (k + 1)) (lab of i) i := (h.reach i (by omega)).mono hsub
   have rk : Reach (edg adj i (k + 1)) (lab of k) k := (h.reach k (by omega)).mono hsub
   refine ⟨?_, ?_, ?_⟩
   · intro x hx
     rw [hg x hx]
     have := h.le x hx
     split <;> omega
   · intro x hx
     rw [hg x hx]
     have hr := (h.reach x hx).mono hsub
     split
     · rename_i e
       rw [e] at hr
       have r1 : Reach (edg adj i (k + 1)) (lab of i) (lab of k) := (ri.trans (.step .refl hik)).trans (rk.symm hsy)
       rcases Nat.le_total (lab of i) (lab of k) with hle | hle
       · rw [Nat.min_eq_left hle]
         rw [Nat.max_eq_right hle] at hr
         exact r1.trans hr
       · rw [Nat.min_eq_right hle]
         rw [Nat.max_eq_left hle] at hr
         exact (r1.symm hsy).trans hr
     · exact hr
   · intro x y hxy
     rcases hnew x y hxy with h1 | ⟨_, h2⟩
     · obtain ⟨k1, k2, k3⟩ := h.edge x y h1
       exact ⟨k1, k2, by rw [hg x k1, hg y k2, k3]⟩
     · rcases h2 with ⟨rfl, rfl⟩ | ⟨rfl, rfl⟩
       · refine ⟨by omega, by omega, ?_⟩
         rw [hg _ (by omega), hg _ (by omega)]
         split <;> split <;> omega
       · refine ⟨by omega, by omega, ?_⟩
         rw [hg _ (by omega), hg _ (by omega)]
         split <;> split <;> omega
theorem rstep_ok {adj : Adj} (hs : ∀ i k, adj i k = adj k i) {i : Nat} {of : List Nat} (hi : i < of.length) (h : Labs (edg adj i 0) i of) : ∀ k, k ≤ i → Labs (edg adj i k) (i + 1) (rstep adj i k of) ∧ (rstep adj i k of).length = of.length := by
 intro k
 induction k with
 | zero =>
   intro _
   refine ⟨?_, by simp [rstep]⟩
   have hg : ∀ x, lab (rstep adj i 0 of) x = if x = i then i else lab of x := by
    intro x
    unfold rstep lab
    rw [List.range_zero, List.foldl_nil, List.getD_eq_getElem?_getD, List.getD_eq_getElem?_getD, List.getElem?_set]
    by_cases e : i = x
    · subst e; simp [hi]
    · simp [e, Ne.symm e]
   refine ⟨?_, ?_, ?_⟩
   · intro x hx
     rw [hg]
     split
     · omega
     · exact h.le x (by omega)
   · intro x hx
     rw [hg]
     split
     · rename_i e; subst e; exact .refl
     · exact h.reach x (by omega)
   · intro x y hxy
     obtain ⟨k1, k2, k3⟩ := h.edge x y hxy
     refine ⟨by omega, by omega, ?_⟩
     rw [hg, hg, if_neg (by omega), if_neg (by omega)]
     exact k3
 | succ k ih =>
   intro hk
   obtain ⟨h1, h2⟩ := ih (by omega)
   have e : rstep adj i (k + 1) of = rmerge adj i k (rstep adj i k of) := by
    unfold rstep
    rw [List.range_succ, List.foldl_append, List.foldl_cons, List.foldl_nil]
   rw [e]
   obtain ⟨k1, k2⟩ := labs_merge hs (by omega) (by omega) h1
   exact ⟨k1, by omega⟩
theorem rofs_ok {adj : Adj} (hs : ∀ i k, adj i k = adj k i) (n : Nat) : ∀ i, i ≤ n → Labs (edg adj i 0) i (rofs adj n i) ∧ (rofs adj n i).length = n := by
 intro i
 induction i with
 | zero =>
   intro _
   refine ⟨⟨fun x hx => absurd hx (by omega), fun x hx => absurd hx (by omega), ?_⟩, by simp [rofs]⟩
   intro x y hxy
   unfold edg at hxy
   simp at hxy
 | succ i ih =>
   intro hi
   obtain ⟨h1, h2⟩ := ih (by omega)
   have e : rofs adj n (i + 1) = rstep adj i i (rofs adj n i) := by
    unfold rofs
    rw [List.range_succ, List.foldl_append, List.foldl_cons, List.foldl_nil]
   rw [e]
   obtain ⟨k1, k2⟩ := rstep_ok hs (by omega) h1 i (Nat.le_refl i)
   have hsub : ∀ x y, edg adj i i x y = true → edg adj (i + 1) 0 x y = true := by
    intro x y hxy
    unfold edg at hxy ⊢
    simp only [Bool.and_eq_true, Bool.or_eq_true, decide_eq_true_eq] at hxy ⊢
    refine ⟨hxy.1, ?_⟩
    have := hxy.2
    omega
   refine ⟨⟨k1.le, fun x hx => (k1.reach x hx).mono hsub, ?_⟩, by omega⟩
   intro x y hxy
   by_cases e2 : x = i ∧ y = i
   · obtain ⟨rfl, rfl⟩ := e2
     exact ⟨by omega, by omega, rfl⟩
   · refine k1.edge x y ?_
     unfold edg at hxy ⊢
     simp only [Bool.and_eq_true, Bool.or_eq_true, decide_eq_true_eq] at hxy ⊢
     refine ⟨hxy.1, ?_⟩
     have := hxy.2
     omega
/- the same groups -/
theorem rgroups_are (adj : Adj) (n : Nat) (hadj : ∀ i k, adj i k = true → k < n) (hs : ∀ i k, adj i k = adj k i) : rgroups (rofs adj n n) n n = groupsF adj n := by
 rw [groupsF_are adj n hadj hs]
 obtain ⟨h, hl⟩ := rofs_ok hs n n (Nat.le_refl n)
 have hall : ∀ x y, edg adj n 0 x y = adj x y := by
  intro x y
  unfold edg
  rw [Bool.eq_iff_iff]
  simp only [Bool.and_eq_true, Bool.or_eq_true, decide_eq_true_eq]
  constructor
  · exact fun h => h.1
  · intro h
    have h1 := hadj x y h
    have h2 := hadj y x (by rw [hs]; exact h)
    exact ⟨h, by omega⟩
 rw [show edg adj n 0 = adj from funext fun x => funext fun y => hall x y] at h
 have hreach : ∀ x y, Reach adj x y → lab (rofs adj n n) x = lab (rofs adj n n) y := by
  intro x y hr
  induction hr with
  | refl => rfl
  | step _ ha ih => exact ih.trans (h.edge _ _ ha).2.2
 have hhead : ∀ i, i < n → (lab (rofs adj n n) i = i ↔ ∀ k, k < i → ¬ Reach adj k i) := by
  intro i hi
  constructor
  · intro e k hk hr
    have := hreach k i hr
    have := h.le k (by omega)
    omega
  · intro hno
    have h1 := h.le i hi
    rcases Nat.lt_or_ge (lab (rofs adj n n) i) i with h2 | h2
    · exact absurd (h.reach i hi) (hno _ h2)
    · omega
 unfold rgroups
 have e1 : ((List.range n).filter fun i => lab (rofs adj n n) i == i) = heads adj n := by
  unfold heads
  refine List.filter_congr fun i hi => ?_
  rw [Bool.eq_iff_iff]
  simp only [beq_iff_eq, decide_eq_true_eq]
  exact hhead i (by simpa using hi)
 rw [e1]
 apply List.map_congr_left
 intro i hi
 have hi' := heads_mem.1 hi
 have hli := (hhead i hi'.1).2 hi'.2
 unfold rgroup comp
 refine List.filter_congr fun k hk => ?_
 have hkn : k < n := by simpa using hk
 rw [Bool.eq_iff_iff]
 simp only [Bool.and_eq_true, decide_eq_true_eq, beq_iff_eq]
 constructor
 · rintro ⟨_, e⟩
   have := h.reach k hkn
   rw [e] at this
   exact this
 · intro hr
   have e := hreach i k hr
   rw [hli] at e
   refine ⟨?_, e.symm⟩
   have := h.le k hkn
   omega
end Go.Proofs.YtfolcjkednmkoaaGreat
