/- Every word of a provision is short, where its names are. Nodes counted: pandectref07.count, pandectref10.Nodes. pandectref07.Small. pandectref07.Names: two lists of names compared. pandectref10.Same: two provisions compared. The example of the printer's statements: what it is written as. pandectref07.In: is a name in a list? -/
import Derived.Test.YtbicmjmcdnkjhaaGreatDoorJMM1
import Derived.Test.YtbicmjmcdnkjhaaGreatDoorJMM8
import Derived.Test.YtbicmjmcdnkjhaaGreatDoorJMM6
set_option linter.unusedVariables false
set_option linter.unusedSimpArgs false
namespace Go.Proofs.YtbicmjmcdnkjhaaGreatDoor
def Sh (w : Bytes) : Prop := w.length ≤ 60
theorem sh_le {w : Bytes} (h : w.length ≤ 60) : Sh w := h
theorem sh_dec {n : Nat} (h : n ≤ 1000000) : Sh (dec n) := by
 have := (dec_spec 7 n (by omega) (by omega)).2.2.2
 unfold Sh
 omega
theorem shapeFs_all : ∀ {ks : List Tree}, shapeFs ks = true → ∀ k ∈ ks, shapeF k = true
 | [], _, k, hk => by simp at hk
 | a :: r, h, k, hk => by
   rw [shapeFs, Bool.and_eq_true] at h
   rcases List.mem_cons.1 hk with rfl | hk
   · exact h.1
   · exact shapeFs_all h.2 k hk
theorem shapeSs_all : ∀ {ks : List Tree}, shapeSs ks = true → ∀ k ∈ ks, shapeS k = true
 | [], _, k, hk => by simp at hk
 | a :: r, h, k, hk => by
   rw [shapeSs, Bool.and_eq_true] at h
   rcases List.mem_cons.1 hk with rfl | hk
   · exact h.1
   · exact shapeSs_all h.2 k hk
theorem namesFs_mem : ∀ {ks : List Tree} {k : Tree} {x : Bytes}, k ∈ ks → x ∈ namesF k → x ∈ namesFs ks
 | [], k, x, hk, _ => by simp at hk
 | a :: r, k, x, hk, hx => by
   rw [namesFs]
   rcases List.mem_cons.1 hk with rfl | hk
   · exact List.mem_append_left _ hx
   · exact List.mem_append_right _ (namesFs_mem hk hx)
theorem namesSs_mem : ∀ {ks : List Tree} {k : Tree} {x : Bytes}, k ∈ ks → x ∈ namesS k → x ∈ namesSs ks
 | [], k, x, hk, _ => by simp at hk
 | a :: r, k, x, hk, hx => by
   rw [namesSs]
   rcases List.mem_cons.1 hk with rfl | hk
   · exact List.mem_append_left _ hx
   · exact List.mem_append_right _ (namesSs_mem hk hx)
theorem sh_F : ∀ (s : Nat) (t : Tree), t.size ≤ s → shapeF t = true → (∀ x ∈ namesF t, Sh x) → ∀ w ∈ wF t, Sh w
 | 0, t, h, _, _ => by have := tree_pos t; omega
 | s + 1, .mk op name cmp n ks, hs, hok, hn => by
   rw [shapeF] at hok
   simp only [Bool.and_eq_true] at hok
   obtain ⟨⟨⟨h1, h2⟩, h3⟩, h4⟩ := hok
   rw [Tree.size] at hs
   have hk := shapeFs_all h4
   have hnk : ∀ k ∈ ks, ∀ x ∈ namesF k, Sh x := fun k hm x hx => hn x (by rw [namesF]; exact List.mem_append_right _ (namesFs_mem hm hx))
   have ih : ∀ b, ∀ a ∈ wFs b ks, ∀ w ∈ a, Sh w := fun b a ha w hw => by
    rw [wFs_map] at ha
    obtain ⟨k, hm, rfl⟩ := List.mem_map.1 ha
    rcases mem_wrapW hw with rfl | rfl | hw
    · exact sh_le (by decide)
    · exact sh_le (by decide)
    · exact sh_F s k (by have := kid_size hm; omega) (hk k hm) (hnk k hm) w hw
   intro w hw
   rw [wF] at hw
   by_cases o1 : op = 1
   · rw [if_pos o1] at hw; rw [List.mem_singleton.1 hw]; exact sh_le (by decide)
   by_cases o2 : op = 2
   · rw [if_neg o1, if_pos o2] at hw; rw [List.mem_singleton.1 hw]; exact sh_le (by decide)
   by_cases o3 : op = 3
   · rw [if_neg o1, if_neg o2, if_pos o3] at hw
     rw [if_pos o3] at h1
     simp only [Bool.and_eq_true, decide_eq_true_eq] at h1
     simp only [List.mem_cons, List.not_mem_nil, or_false] at hw
     rcases hw with rfl | rfl | rfl
     · exact hn _ (by rw [namesF, if_pos (Or.inl o3)]; simp)
     · have : cmp = 1 ∨ cmp = 2 ∨ cmp = 3 ∨ cmp = 4 ∨ cmp = 5 ∨ cmp = 6 := by omega
       rcases this with rfl | rfl | rfl | rfl | rfl | rfl <;> exact sh_le (by decide)
     · exact sh_dec h1.2
   by_cases o4 : op = 4
   · rw [if_neg o1, if_neg o2, if_neg o3, if_pos o4] at hw
     rw [List.mem_singleton.1 hw]; exact hn _ (by rw [namesF, if_pos (Or.inr o4)]; simp)
   by_cases o5 : op = 5
   · rw [if_neg o1, if_neg o2, if_neg o3, if_neg o4, if_pos o5] at hw
     rcases List.mem_cons.1 hw with rfl | hw
     · exact sh_le (by decide)
     · obtain ⟨a, ha, hw⟩ := List.mem_flatten.1 hw
       exact ih false a ha w hw
   by_cases o6 : op = 6
   · rw [if_neg o1, if_neg o2, if_neg o3, if_neg o4, if_neg o5, if_pos o6] at hw
     rcases mem_sepW hw with rfl | ⟨a, ha, hw⟩
     · exact sh_le (by decide)
     · exact ih false a ha w hw
   by_cases o7 : op = 7
   · rw [if_neg o1, if_neg o2, if_neg o3, if_neg o4, if_neg o5, if_neg o6, if_pos o7] at hw
     rcases mem_sepW hw with rfl | ⟨a, ha, hw⟩
     · exact sh_le (by decide)
     · exact ih true a ha w hw
   · rw [if_neg o1, if_neg o2, if_neg o3, if_neg o4, if_neg o5, if_neg o6, if_neg o7] at hw
     simp at hw
theorem sh_S : ∀ (s : Nat) (t : Tree), t.size ≤ s → shapeS t = true → (∀ x ∈ namesS t, Sh x) → ∀ w ∈ wS t, Sh w
 | 0, t, h, _, _ => by have := tree_pos t; omega
 | s + 1, .mk op name cmp n ks, hs, hok, hn => by
   rw [shapeS] at hok
   simp only [Bool.and_eq_true] at hok
   obtain ⟨⟨⟨h1, h2⟩, h3⟩, h4⟩ := hok
   rw [Tree.size] at hs
   have hk := shapeSs_all h4
   have hnk : ∀ k ∈ ks, ∀ x ∈ namesS k, Sh x := fun k hm x hx => hn x (by rw [namesS]; exact List.mem_append_right _ (namesSs_mem hm hx))
   have ih : ∀ b, ∀ a ∈ wSs b ks, ∀ w ∈ a, Sh w := fun b a ha w hw => by
    rw [wSs_map] at ha
    obtain ⟨k, hm, rfl⟩ := List.mem_map.1 ha
    rcases mem_wrapW hw with rfl | rfl | hw
    · exact sh_le (by decide)
    · exact sh_le (by decide)
    · exact sh_S s k (by have := kid_size hm; omega) (hk k hm) (hnk k hm) w hw
   intro w hw
   rw [wS] at hw
   by_cases o1 : op = 1
   · rw [if_pos o1] at hw; rw [List.mem_singleton.1 hw]; exact sh_le (by decide)
   by_cases o2 : op = 2
   · rw [if_neg o1, if_pos o2] at hw; rw [List.mem_singleton.1 hw]; exact sh_le (by decide)
   by_cases o3 : op = 3
   · rw [if_neg o1, if_neg o2, if_pos o3] at hw
     have hn0 : n ≤ 1000000 := by have := h1.2; rw [if_pos o3] at this; simpa using this
     simp only [List.mem_cons, List.not_mem_nil, or_false] at hw
     rcases hw with rfl | rfl
     · exact sh_le (by decide)
     · exact sh_dec hn0
   by_cases o4 : op = 4 ∨ op = 5 ∨ op = 6 ∨ op = 7
   · rw [if_neg o1, if_neg o2, if_neg o3, if_pos o4] at hw
     simp only [List.mem_cons, List.not_mem_nil, or_false] at hw
     rcases hw with rfl | rfl
     · rcases o4 with rfl | rfl | rfl | rfl <;> exact sh_le (by decide)
     · exact hn _ (by rw [namesS, if_pos o4]; simp)
   by_cases o8 : op = 8
   · rw [if_neg o1, if_neg o2, if_neg o3, if_neg o4, if_pos o8] at hw
     rcases mem_sepW hw with rfl | ⟨a, ha, hw⟩
     · exact sh_le (by decide)
     · exact ih false a ha w hw
   by_cases o9 : op = 9
   · rw [if_neg o1, if_neg o2, if_neg o3, if_neg o4, if_neg o8, if_pos o9] at hw
     rcases mem_sepW hw with rfl | ⟨a, ha, hw⟩
     · exact sh_le (by decide)
     · exact ih true a ha w hw
   · rw [if_neg o1, if_neg o2, if_neg o3, if_neg o4, if_neg o8, if_neg o9] at hw
     simp at hw
theorem sh_part {b : Bool} {k : Bytes} {l : List Bytes} (hk : Sh k) (hl : ∀ w ∈ l, Sh w) : ∀ w ∈ partW b k l, Sh w := by
 unfold partW
 intro w hw
 split at hw
 · rcases List.mem_cons.1 hw with rfl | hw
   · exact hk
   · exact hl w hw
 · simp at hw
theorem sh_P {p : Prov} (hp : WrOk p) (hn : ∀ x ∈ namesP p, Sh x) : ∀ w ∈ wP p, Sh w := by
 intro w hw
 unfold wP tail0 tail1 tail2 tail3 at hw
 simp only [List.mem_cons, List.mem_append, List.not_mem_nil, or_false] at hw
 rcases hw with rfl | rfl | rfl | hw | hw | hw | hw | hw | hw | rfl
 · have hr := hp.rank
   have : p.rank = 1 ∨ p.rank = 2 ∨ p.rank = 3 ∨ p.rank = 4 := by omega
   rcases this with h | h | h | h <;> rw [h] <;> exact sh_le (by decide)
 · exact hn _ (by simp [namesP])
 · exact sh_le (by decide)
 · unfold kindW at hw
   split at hw
   · simp only [List.mem_cons, List.not_mem_nil, or_false] at hw
     rcases hw with rfl | rfl
     · exact sh_le (by decide)
     · exact hn _ (by simp [namesP])
   · simp only [List.mem_cons, List.not_mem_nil, or_false] at hw
     rcases hw with rfl | rfl | rfl | rfl
     · exact sh_le (by decide)
     · exact hn _ (by simp [namesP])
     · exact sh_le (by decide)
     · exact sh_dec hp.value
 · exact sh_part (sh_le (by decide)) (sh_F _ _ (lR _) hp.cond (fun x hx => hn x (by simp [namesP, hx]))) w hw
 · unfold excW at hw
   split at hw
   · simp at hw
   · rcases List.mem_cons.1 hw with rfl | hw
     · exact sh_le (by decide)
     · rcases mem_sepW hw with rfl | ⟨a, ha, hw⟩
       · exact sh_le (by decide)
       · obtain ⟨s, hs, rfl⟩ := List.mem_map.1 ha
         rw [List.mem_singleton.1 hw]
         exact hn _ (by simp [namesP, hs])
 · exact sh_part (sh_le (by decide)) (sh_S _ _ (lR _) hp.beg (fun x hx => hn x (by simp [namesP, hx]))) w hw
 · exact sh_part (sh_le (by decide)) (sh_S _ _ (lR _) hp.fin (fun x hx => hn x (by simp [namesP, hx]))) w hw
 · exact sh_part (sh_le (by decide)) (sh_S _ _ (lR _) hp.aga (fun x hx => hn x (by simp [namesP, hx]))) w hw
 · exact sh_le (by decide)
namespace So
theorem sh_F : ∀ (s : Nat) (t : Tree), t.size ≤ s → t.size ≤ 200 → shapeF t = true → (∀ x ∈ Go.Proofs.YtbicmjmcdnkjhaaGreatDoor.namesF t, Sh x) → ∀ w ∈ wF t, Sh w
 | 0, t, h, _, _, _ => by have := tree_pos t; omega
 | s + 1, .mk op name cmp n ks, hs, h200, hok, hn => by
   rw [shapeF] at hok
   simp only [Bool.and_eq_true] at hok
   obtain ⟨⟨⟨h1, h2⟩, h3⟩, h4⟩ := hok
   rw [Tree.size] at hs h200
   have hk := shapeFs_all h4
   have hnk : ∀ k ∈ ks, ∀ x ∈ Go.Proofs.YtbicmjmcdnkjhaaGreatDoor.namesF k, Sh x := fun k hm x hx => hn x (by rw [Go.Proofs.YtbicmjmcdnkjhaaGreatDoor.namesF]; exact List.mem_append_right _ (namesFs_mem hm hx))
   have hkl := kids_len ks
   intro w hw
   rw [wF, wFs_flat, List.mem_append] at hw
   rcases hw with hw | hw
   · obtain ⟨k, hm, hw⟩ := List.mem_flatMap.1 hw
     exact sh_F s k (by have := kid_size hm; omega) (by have := kid_size hm; omega) (hk k hm) (hnk k hm) w hw
   by_cases o1 : op = 1
   · rw [if_pos o1] at hw; rw [List.mem_singleton.1 hw]; exact sh_le (by decide)
   by_cases o2 : op = 2
   · rw [if_neg o1, if_pos o2] at hw; rw [List.mem_singleton.1 hw]; exact sh_le (by decide)
   by_cases o3 : op = 3
   · rw [if_neg o1, if_neg o2, if_pos o3] at hw
     rw [if_pos o3] at h1
     simp only [Bool.and_eq_true, decide_eq_true_eq] at h1
     simp only [List.mem_cons, List.not_mem_nil, or_false] at hw
     rcases hw with rfl | rfl | rfl
     · exact hn _ (by rw [Go.Proofs.YtbicmjmcdnkjhaaGreatDoor.namesF, if_pos (Or.inl o3)]; simp)
     · exact sh_dec h1.2
     · have : cmp = 1 ∨ cmp = 2 ∨ cmp = 3 ∨ cmp = 4 ∨ cmp = 5 ∨ cmp = 6 := by omega
       rcases this with rfl | rfl | rfl | rfl | rfl | rfl <;> exact sh_le (by decide)
   by_cases o4 : op = 4
   · rw [if_neg o1, if_neg o2, if_neg o3, if_pos o4] at hw
     simp only [List.mem_cons, List.not_mem_nil, or_false] at hw
     rcases hw with rfl | rfl
     · exact hn _ (by rw [Go.Proofs.YtbicmjmcdnkjhaaGreatDoor.namesF, if_pos (Or.inr o4)]; simp)
     · exact sh_le (by decide)
   by_cases o5 : op = 5
   · rw [if_neg o1, if_neg o2, if_neg o3, if_neg o4, if_pos o5] at hw
     rw [List.mem_singleton.1 hw]; exact sh_le (by decide)
   by_cases o6 : op = 6
   · rw [if_neg o1, if_neg o2, if_neg o3, if_neg o4, if_neg o5, if_pos o6] at hw
     simp only [List.mem_cons, List.not_mem_nil, or_false] at hw
     rcases hw with rfl | rfl
     · exact sh_le (by decide)
     · exact sh_dec (by omega)
   by_cases o7 : op = 7
   · rw [if_neg o1, if_neg o2, if_neg o3, if_neg o4, if_neg o5, if_neg o6, if_pos o7] at hw
     simp only [List.mem_cons, List.not_mem_nil, or_false] at hw
     rcases hw with rfl | rfl
     · exact sh_le (by decide)
     · exact sh_dec (by omega)
   · rw [if_neg o1, if_neg o2, if_neg o3, if_neg o4, if_neg o5, if_neg o6, if_neg o7] at hw
     simp at hw
theorem sh_S : ∀ (s : Nat) (t : Tree), t.size ≤ s → t.size ≤ 200 → shapeS t = true → (∀ x ∈ namesS t, Sh x) → ∀ w ∈ wS t, Sh w
 | 0, t, h, _, _, _ => by have := tree_pos t; omega
 | s + 1, .mk op name cmp n ks, hs, h200, hok, hn => by
   rw [shapeS] at hok
   simp only [Bool.and_eq_true] at hok
   obtain ⟨⟨⟨h1, h2⟩, h3⟩, h4⟩ := hok
   rw [Tree.size] at hs h200
   have hk := shapeSs_all h4
   have hnk : ∀ k ∈ ks, ∀ x ∈ namesS k, Sh x := fun k hm x hx => hn x (by rw [namesS]; exact List.mem_append_right _ (namesSs_mem hm hx))
   have hkl := kids_len ks
   intro w hw
   rw [wS, wSs_flat, List.mem_append] at hw
   rcases hw with hw | hw
   · obtain ⟨k, hm, hw⟩ := List.mem_flatMap.1 hw
     exact sh_S s k (by have := kid_size hm; omega) (by have := kid_size hm; omega) (hk k hm) (hnk k hm) w hw
   by_cases o1 : op = 1
   · rw [if_pos o1] at hw; rw [List.mem_singleton.1 hw]; exact sh_le (by decide)
   by_cases o2 : op = 2
   · rw [if_neg o1, if_pos o2] at hw; rw [List.mem_singleton.1 hw]; exact sh_le (by decide)
   by_cases o3 : op = 3
   · rw [if_neg o1, if_neg o2, if_pos o3] at hw
     have hn0 : n ≤ 1000000 := by have := h1.2; rw [if_pos o3] at this; simpa using this
     simp only [List.mem_cons, List.not_mem_nil, or_false] at hw
     rcases hw with rfl | rfl
     · exact sh_dec hn0
     · exact sh_le (by decide)
   by_cases o4 : op = 4 ∨ op = 5 ∨ op = 6 ∨ op = 7
   · rw [if_neg o1, if_neg o2, if_neg o3, if_pos o4] at hw
     simp only [List.mem_cons, List.not_mem_nil, or_false] at hw
     rcases hw with rfl | rfl
     · exact hn _ (by rw [namesS, if_pos o4]; simp)
     · rcases o4 with rfl | rfl | rfl | rfl <;> exact sh_le (by decide)
   by_cases o8 : op = 8
   · rw [if_neg o1, if_neg o2, if_neg o3, if_neg o4, if_pos o8] at hw
     simp only [List.mem_cons, List.not_mem_nil, or_false] at hw
     rcases hw with rfl | rfl
     · exact sh_le (by decide)
     · exact sh_dec (by omega)
   by_cases o9 : op = 9
   · rw [if_neg o1, if_neg o2, if_neg o3, if_neg o4, if_neg o8, if_pos o9] at hw
     simp only [List.mem_cons, List.not_mem_nil, or_false] at hw
     rcases hw with rfl | rfl
     · exact sh_le (by decide)
     · exact sh_dec (by omega)
   · rw [if_neg o1, if_neg o2, if_neg o3, if_neg o4, if_neg o8, if_neg o9] at hw
     simp at hw
theorem sh_br {l : List Bytes} (h : ∀ w ∈ l, Sh w) : ∀ w ∈ brW l, Sh w := by
 intro w hw
 unfold brW at hw
 simp only [List.mem_cons, List.mem_append, List.not_mem_nil, or_false] at hw
 rcases hw with rfl | hw | rfl
 · exact sh_le (by decide)
 · exact h w hw
 · exact sh_le (by decide)
theorem sh_P {p : Prov} (hp : WrOk p) (hn : ∀ x ∈ namesP p, Sh x) : ∀ w ∈ wP p, Sh w := by
 intro w hw
 unfold wP tail0 tail1 tail2 tail3 at hw
 simp only [List.mem_append] at hw
 rcases hw with hw | hw | hw | hw | hw | hw | hw
 · exact sh_part (sh_le (by decide)) (sh_br (sh_F _ _ (lR _) (small_200 hp.condS) hp.cond (fun x hx => hn x (by simp [namesP, hx])))) w hw
 · unfold kindW at hw
   split at hw
   · simp only [List.mem_cons, List.not_mem_nil, or_false] at hw
     rcases hw with rfl | rfl
     · exact sh_le (by decide)
     · exact hn _ (by simp [namesP])
   · simp only [List.mem_cons, List.not_mem_nil, or_false] at hw
     rcases hw with rfl | rfl | rfl | rfl
     · exact sh_le (by decide)
     · exact hn _ (by simp [namesP])
     · exact sh_le (by decide)
     · exact sh_dec hp.value
 · unfold excW at hw
   split at hw
   · simp at hw
   · simp only [List.mem_cons, List.mem_append, List.not_mem_nil, or_false] at hw
     rcases hw with rfl | rfl | hw | rfl
     · exact sh_le (by decide)
     · exact sh_le (by decide)
     · exact hn _ (by simp [namesP, hw])
     · exact sh_le (by decide)
 · exact sh_part (sh_le (by decide)) (sh_br (sh_S _ _ (lR _) (small_200 hp.begS) hp.beg (fun x hx => hn x (by simp [namesP, hx])))) w hw
 · exact sh_part (sh_le (by decide)) (sh_br (sh_S _ _ (lR _) (small_200 hp.finS) hp.fin (fun x hx => hn x (by simp [namesP, hx])))) w hw
 · exact sh_part (sh_le (by decide)) (sh_br (sh_S _ _ (lR _) (small_200 hp.agaS) hp.aga (fun x hx => hn x (by simp [namesP, hx])))) w hw
 · unfold endW at hw
   simp only [List.mem_cons, List.not_mem_nil, or_false] at hw
   rcases hw with rfl | rfl | rfl | rfl
   · exact sh_le (by decide)
   · have hr := hp.rank
     have : p.rank = 1 ∨ p.rank = 2 ∨ p.rank = 3 ∨ p.rank = 4 := by omega
     rcases this with h | h | h | h <;> rw [h] <;> exact sh_le (by decide)
   · exact hn _ (by simp [namesP])
   · exact sh_le (by decide)
end So
theorem join_len : ∀ l : List Bytes, (∀ w ∈ l, Sh w) → (joinB l).length ≤ 61 * l.length
 | [], _ => by simp [joinB]
 | [w], h => by have := h w (by simp); unfold Sh at this; simp [joinB]; omega
 | w :: w' :: r, h => by
   have h1 := h w (by simp)
   have h2 := join_len (w' :: r) (fun x hx => h x (by simp [hx]))
   unfold Sh at h1
   simp only [joinB, List.length_append, List.length_cons] at h2 ⊢
   omega
end Go.Proofs.YtbicmjmcdnkjhaaGreatDoor
set_option maxRecDepth 20000
set_option maxHeartbeats 4000000
namespace Go.Proofs.YtbicmjmcdnkjhaaGreatDoor
open Go.RowKit
theorem count_f : ∀ (N : Nat) (t : TreeI) (cs : List Value) (M : Int) (w : World), t.size ≤ N → 0 ≤ M → M ≤ 1000000 → RdX true w cs t →
 Calls Tryz.prog 57 #[.agg cs.toArray, .int .i64 M] w fun e w' => e = .returned (.int .i64 (cntI t M)) ∧ Below w.heap.size w w' := by
 intro N
 induction N with
 | zero =>
   intro t cs M w hN
   have := sizeI_pos t
   omega
 | succ N ih =>
   intro t cs M w hN hM0 hM hr1
   have IH := Hi ih
   obtain ⟨op, name, cm, m, ks⟩ := t
   obtain ⟨A1, p1, rfl, -, hk1⟩ := hr1
   have HK1 := Hi hk1
   simp only [TreeI.size] at hN
   simp only [tcX]
   rw [cntI]
   clear ih hk1
   go_enter Tryz.func57, Tryz.ntmps57
   go_wp2_with fail
   go_loopw [5, 6] (fun v5 v6 wr => ∃ (k : Nat) (n : Int), k ≤ ks.length ∧ v6 = .int .i64 k ∧ v5 = .int .i64 n ∧ cntsI ks 1 M = cntsI (ks.drop k) n M ∧ (k : Int) + 1 ≤ n ∧ n ≤ M + 1 ∧ Below (w.alloc (.cells #[.int .i64 op, vs name, .int .i64 cm, .int .i64 m, .slice A1 ks.length p1] 24)).heap.size (w.alloc (.cells #[.int .i64 op, vs name, .int .i64 cm, .int .i64 m, .slice A1 ks.length p1] 24)) wr) (fun _ v6 _ => ks.length - (intOf v6).toNat)
   case atStart => exact ⟨0, 1, Nat.zero_le _, rfl, rfl, rfl, by omega, by omega, Below.refl _ _⟩
   case round =>
    obtain ⟨k, n, hk, rfl, rfl, heq, hn1, hn2, hb⟩ := hrel
    have HEQ := Hi heq
    have e1 : wr.heap[w.heap.size]? = some (.cells #[.int .i64 op, vs name, .int .i64 cm, .int .i64 m, .slice A1 ks.length p1] 24 (0, 0)) := (hb.block _ (by simp)).trans (new_at rfl)
    have c1 : wr.cell? ⟨w.heap.size, 4, none⟩ = some (.slice A1 ks.length p1) := cOb (o := 4) e1 rfl
    have l1 := lHp e1
    have hbw : Below w.heap.size w wr := ((Below.refl _ _).alloc (lR _) _).trans (hb.mono (by simp))
    have HB := Hi hb
    have HBW := Hi hbw
    clear hb e1 hbw heq
    by_cases hlt : k < ks.length
    · obtain ⟨x, hx⟩ := gLt hlt
      have hk1 : (k : Int) < ks.length := by omega
      have hk0 : (0 : Int) ≤ k := by omega
      have hstep : ks.drop k = x :: ks.drop (k + 1) := by
       obtain ⟨h1, rfl⟩ := List.getElem?_eq_some_iff.1 hx
       exact List.drop_eq_getElem_cons h1
      by_cases hnm : n ≤ M
      · have hs2 : cntsI ks 1 M = cntsI (ks.drop (k + 1)) (n + cntI x (M - n)) M := by
          rw [HEQ.out, hstep, cntsI, if_pos hnm]
        have HS2 := Hi hs2
        clear hs2 hstep
        have hxs := memI_size hx
        have hne : ks ≠ [] := by rintro rfl; simp at hlt
        obtain ⟨b1, o1, rfl, hb1, hkd1⟩ := HK1.out.resolve_left hne
        obtain ⟨xs1, hc1, ht1⟩ := hkd1.get hx
        have HT1 := Hi ht1
        obtain ⟨q1', q2', q3', -⟩ := cnt_spec x (M - n)
        have q2 : cntI x (M - n) ≤ M - n + 1 := by omega
        have hc0 : ∃ c, cntI x (M - n) = c := ⟨_, rfl⟩
        obtain ⟨c, hc⟩ := hc0
        rw [hc] at q1' q2
        have HC := Hi hc
        clear q2' q3' hc
        obtain ⟨o0, n0, d0, m0, ks0⟩ := x
        obtain ⟨B1, q1, rfl, -, -⟩ := ht1
        have z10 : wr.cell? ⟨b1, o1 + k * 5, none⟩ = some (.int .i64 o0) := (HBW.out.cell (p := ⟨b1, o1 + k * 5, none⟩) hb1).trans (hc1 0 _ rfl)
        have z11 : wr.cell? ⟨b1, o1 + k * 5 + 1, none⟩ = some (vs n0) := (HBW.out.cell (p := ⟨b1, o1 + k * 5 + 1, none⟩) hb1).trans (hc1 1 _ rfl)
        have z12 : wr.cell? ⟨b1, o1 + k * 5 + 2, none⟩ = some (.int .i64 d0) := (HBW.out.cell (p := ⟨b1, o1 + k * 5 + 2, none⟩) hb1).trans (hc1 2 _ rfl)
        have z13 : wr.cell? ⟨b1, o1 + k * 5 + 3, none⟩ = some (.int .i64 m0) := (HBW.out.cell (p := ⟨b1, o1 + k * 5 + 3, none⟩) hb1).trans (hc1 3 _ rfl)
        have z14 : wr.cell? ⟨b1, o1 + k * 5 + 4, none⟩ = some (.slice B1 ks0.length q1) := (HBW.out.cell (p := ⟨b1, o1 + k * 5 + 4, none⟩) hb1).trans (hc1 4 _ rfl)
        have hb1' : b1 < wr.heap.size := by have := HBW.out.size; omega
        have hw1 : wrap64 (M - n) = M - n := by unfold wrap64; omega
        have hw2 : wrap64 (n + c) = n + c := by unfold wrap64; omega
        have HI : Hid (Calls Tryz.prog 57 #[.agg #[.int .i64 o0, vs n0, .int .i64 d0, .int .i64 m0, .slice B1 ks0.length q1], .int .i64 (M - n)] wr fun e w' => e = .returned (.int .i64 (cntI (.mk o0 n0 d0 m0 ks0) (M - n))) ∧ Below wr.heap.size wr w') := Hi (IH.out (.mk o0 n0 d0 m0 ks0) _ _ _ (by omega) (by omega) (by omega) (HT1.out.keep HBW.out))
        clear hc1 hkd1 hx hxs hne
        go_wp2_with fail
        refine HI.out.mono ?_
        rintro e w2 ⟨rfl, hb2⟩
        rw [HC.out]
        have HB2 := Hi hb2
        clear hb2 c1 z10 z11 z12 z13 z14
        go_wp2_with fail
        exact ⟨⟨k + 1, n + c, by omega, by go_num, rfl, by rw [HS2.out, HC.out], by omega, by omega, HB.out.trans (HB2.out.mono HB.out.size)⟩, by simp [intOf]; omega⟩
      · have hend : cntsI ks 1 M = n := by rw [HEQ.out, hstep, cntsI, if_neg hnm]
        have HE := Hi hend
        clear hend hstep hx
        go_wp2_with fail
        go_ret
        exact ⟨by rw [HE.out]; rfl, HBW.out⟩
    · have hk' : k = ks.length := by omega
      subst hk'
      have hlt2 : ¬ ((ks.length : Nat) : Int) < ks.length := by omega
      have hend : cntsI ks 1 M = n := by rw [HEQ.out, List.drop_length, cntsI]
      have HE := Hi hend
      clear hend
      go_wp2_with fail
      go_ret
      exact ⟨by rw [HE.out]; rfl, HBW.out⟩
theorem nodes_s : ∀ (N : Nat) (t : TreeI) (cs : List Value) (M : Int) (w : World), t.size ≤ N → 0 ≤ M → M ≤ 1000000 → RdX false w cs t →
 Calls Tryz.prog 24 #[.agg cs.toArray, .int .i64 M] w fun e w' => e = .returned (.int .i64 (cntI t M)) ∧ Below w.heap.size w w' := by
 intro N
 induction N with
 | zero =>
   intro t cs M w hN
   have := sizeI_pos t
   omega
 | succ N ih =>
   intro t cs M w hN hM0 hM hr1
   have IH := Hi ih
   obtain ⟨op, name, cm, m, ks⟩ := t
   obtain ⟨A1, p1, rfl, -, hk1⟩ := hr1
   have HK1 := Hi hk1
   simp only [TreeI.size] at hN
   simp only [tcX]
   rw [cntI]
   clear ih hk1
   go_enter Tryz.func24, Tryz.ntmps24
   go_wp2_with fail
   go_loopw [5, 6] (fun v5 v6 wr => ∃ (k : Nat) (n : Int), k ≤ ks.length ∧ v6 = .int .i64 k ∧ v5 = .int .i64 n ∧ cntsI ks 1 M = cntsI (ks.drop k) n M ∧ (k : Int) + 1 ≤ n ∧ n ≤ M + 1 ∧ Below (w.alloc (.cells #[.int .i64 op, vs name, .int .i64 m, .slice A1 ks.length p1] 28)).heap.size (w.alloc (.cells #[.int .i64 op, vs name, .int .i64 m, .slice A1 ks.length p1] 28)) wr) (fun _ v6 _ => ks.length - (intOf v6).toNat)
   case atStart => exact ⟨0, 1, Nat.zero_le _, rfl, rfl, rfl, by omega, by omega, Below.refl _ _⟩
   case round =>
    obtain ⟨k, n, hk, rfl, rfl, heq, hn1, hn2, hb⟩ := hrel
    have HEQ := Hi heq
    have e1 : wr.heap[w.heap.size]? = some (.cells #[.int .i64 op, vs name, .int .i64 m, .slice A1 ks.length p1] 28 (0, 0)) := (hb.block _ (by simp)).trans (new_at rfl)
    have c1 : wr.cell? ⟨w.heap.size, 3, none⟩ = some (.slice A1 ks.length p1) := cOb (o := 3) e1 rfl
    have l1 := lHp e1
    have hbw : Below w.heap.size w wr := ((Below.refl _ _).alloc (lR _) _).trans (hb.mono (by simp))
    have HB := Hi hb
    have HBW := Hi hbw
    clear hb e1 hbw heq
    by_cases hlt : k < ks.length
    · obtain ⟨x, hx⟩ := gLt hlt
      have hk1 : (k : Int) < ks.length := by omega
      have hk0 : (0 : Int) ≤ k := by omega
      have hstep : ks.drop k = x :: ks.drop (k + 1) := by
       obtain ⟨h1, rfl⟩ := List.getElem?_eq_some_iff.1 hx
       exact List.drop_eq_getElem_cons h1
      by_cases hnm : n ≤ M
      · have hs2 : cntsI ks 1 M = cntsI (ks.drop (k + 1)) (n + cntI x (M - n)) M := by
          rw [HEQ.out, hstep, cntsI, if_pos hnm]
        have HS2 := Hi hs2
        clear hs2 hstep
        have hxs := memI_size hx
        have hne : ks ≠ [] := by rintro rfl; simp at hlt
        obtain ⟨b1, o1, rfl, hb1, hkd1⟩ := HK1.out.resolve_left hne
        obtain ⟨xs1, hc1, ht1⟩ := hkd1.get hx
        have HT1 := Hi ht1
        obtain ⟨q1', q2', q3', -⟩ := cnt_spec x (M - n)
        have q2 : cntI x (M - n) ≤ M - n + 1 := by omega
        have hc0 : ∃ c, cntI x (M - n) = c := ⟨_, rfl⟩
        obtain ⟨c, hc⟩ := hc0
        rw [hc] at q1' q2
        have HC := Hi hc
        clear q2' q3' hc
        obtain ⟨o0, n0, d0, m0, ks0⟩ := x
        obtain ⟨B1, q1, rfl, -, -⟩ := ht1
        have z10 : wr.cell? ⟨b1, o1 + k * 4, none⟩ = some (.int .i64 o0) := (HBW.out.cell (p := ⟨b1, o1 + k * 4, none⟩) hb1).trans (hc1 0 _ rfl)
        have z11 : wr.cell? ⟨b1, o1 + k * 4 + 1, none⟩ = some (vs n0) := (HBW.out.cell (p := ⟨b1, o1 + k * 4 + 1, none⟩) hb1).trans (hc1 1 _ rfl)
        have z12 : wr.cell? ⟨b1, o1 + k * 4 + 2, none⟩ = some (.int .i64 m0) := (HBW.out.cell (p := ⟨b1, o1 + k * 4 + 2, none⟩) hb1).trans (hc1 2 _ rfl)
        have z13 : wr.cell? ⟨b1, o1 + k * 4 + 3, none⟩ = some (.slice B1 ks0.length q1) := (HBW.out.cell (p := ⟨b1, o1 + k * 4 + 3, none⟩) hb1).trans (hc1 3 _ rfl)
        have hb1' : b1 < wr.heap.size := by have := HBW.out.size; omega
        have hw1 : wrap64 (M - n) = M - n := by unfold wrap64; omega
        have hw2 : wrap64 (n + c) = n + c := by unfold wrap64; omega
        have HI : Hid (Calls Tryz.prog 24 #[.agg #[.int .i64 o0, vs n0, .int .i64 m0, .slice B1 ks0.length q1], .int .i64 (M - n)] wr fun e w' => e = .returned (.int .i64 (cntI (.mk o0 n0 d0 m0 ks0) (M - n))) ∧ Below wr.heap.size wr w') := Hi (IH.out (.mk o0 n0 d0 m0 ks0) _ _ _ (by omega) (by omega) (by omega) (HT1.out.keep HBW.out))
        clear hc1 hkd1 hx hxs hne
        go_wp2_with fail
        refine HI.out.mono ?_
        rintro e w2 ⟨rfl, hb2⟩
        rw [HC.out]
        have HB2 := Hi hb2
        clear hb2 c1 z10 z11 z12 z13
        go_wp2_with fail
        exact ⟨⟨k + 1, n + c, by omega, by go_num, rfl, by rw [HS2.out, HC.out], by omega, by omega, HB.out.trans (HB2.out.mono HB.out.size)⟩, by simp [intOf]; omega⟩
      · have hend : cntsI ks 1 M = n := by rw [HEQ.out, hstep, cntsI, if_neg hnm]
        have HE := Hi hend
        clear hend hstep hx
        go_wp2_with fail
        go_ret
        exact ⟨by rw [HE.out]; rfl, HBW.out⟩
    · have hk' : k = ks.length := by omega
      subst hk'
      have hlt2 : ¬ ((ks.length : Nat) : Int) < ks.length := by omega
      have hend : cntsI ks 1 M = n := by rw [HEQ.out, List.drop_length, cntsI]
      have HE := Hi hend
      clear hend
      go_wp2_with fail
      go_ret
      exact ⟨by rw [HE.out]; rfl, HBW.out⟩
end Go.Proofs.YtbicmjmcdnkjhaaGreatDoor
set_option maxRecDepth 20000
set_option maxHeartbeats 1000000
namespace Go.Proofs.YtbicmjmcdnkjhaaGreatDoor
open Go.RowKit
theorem small_f (t : TreeI) (cs : List Value) (M : Int) (w : World) (h0 : 0 ≤ M) (hM : M ≤ 1000000) (hr : RdX true w cs t) :
 Calls Tryz.prog 23 #[.agg cs.toArray, .int .i64 M] w fun e w' => e = .returned (.bool (decide (cntI t M ≤ M))) ∧ Below w.heap.size w w' := by
 have HR := Hi hr
 obtain ⟨op, name, cm, m, ks⟩ := t
 obtain ⟨A1, p1, rfl, -, hk1⟩ := hr
 simp only [tcX]
 clear hk1
 go_enter Tryz.func23, Tryz.ntmps23
 go_wp2_with fail
 refine (count_f _ (.mk op name cm m ks) _ M _ (lR _) h0 hM (HR.out.keep (by repeat (first | exact Below.refl _ _ | refine Below.alloc ?_ (by simp) _)))).mono ?_
 rintro e w2 ⟨rfl, hb⟩
 have HB := Hi hb
 clear hb
 go_wp2_with fail
 go_ret
 exact ⟨rfl, by first | exact HB.out | exact ((Below.refl _ _).alloc (lR _) _).trans (HB.out.mono (by simp))⟩
end Go.Proofs.YtbicmjmcdnkjhaaGreatDoor
set_option maxRecDepth 20000
namespace Go.Proofs.YtbicmjmcdnkjhaaGreatDoor
def exP (id : Bytes) : Prov := ⟨id, 2, 2, [116, 97, 120], 5, .mk 6 [] 0 0 [.mk 3 [97, 103, 101] 6 18 [], .mk 5 [] 0 0 [.mk 4 [112, 111, 111, 114] 0 0 []]], [[112, 50], [112, 51]], .mk 9 [] 0 0 [.mk 3 [] 0 10 [], .mk 4 [111, 49] 0 0 []], .mk 2 [] 0 0 [], .mk 2 [] 0 0 []⟩
abbrev exN : Bytes := [97, 99, 116, 32, 112, 49, 58, 32, 97, 110, 115, 119, 101, 114, 32, 116, 97, 120, 32, 105, 115, 32, 53, 32, 105, 102, 32, 97, 103, 101, 32, 62, 61, 32, 49, 56, 32, 97, 110, 100, 32, 110, 111, 116, 32, 112, 111, 111, 114, 32, 110, 111, 116, 119, 105, 116, 104, 115, 116, 97, 110, 100, 105, 110, 103, 32, 112, 50, 44, 32, 112, 51, 32, 102, 114, 111, 109, 32, 100, 97, 121, 32, 49, 48, 32, 111, 114, 32, 111, 114, 100, 101, 114, 32, 111, 49, 46]
abbrev exS : Bytes := [119, 104, 101, 114, 101, 32, 123, 32, 97, 103, 101, 32, 49, 56, 32, 108, 101, 97, 115, 116, 32, 112, 111, 111, 114, 32, 100, 101, 102, 105, 110, 101, 100, 32, 110, 101, 103, 97, 116, 101, 100, 32, 97, 108, 108, 32, 50, 32, 125, 32, 113, 117, 101, 115, 116, 105, 111, 110, 32, 116, 97, 120, 32, 103, 105, 118, 101, 115, 32, 53, 32, 111, 118, 101, 114, 114, 105, 100, 101, 115, 32, 40, 112, 50, 32, 112, 51, 41, 32, 115, 116, 97, 114, 116, 115, 32, 123, 32, 49, 48, 32, 100, 97, 121, 32, 111, 49, 32, 100, 101, 99, 114, 101, 101, 32, 97, 110, 121, 32, 50, 32, 125, 32, 91, 115, 116, 97, 116, 117, 116, 101, 32, 112, 49, 93]
abbrev exW : Bytes := [119, 104, 101, 114, 101]
theorem dec_2 : dec 2 = [50] := dec_small (by decide)
theorem dec_5 : dec 5 = [53] := dec_small (by decide)
theorem dec_10 : dec 10 = [49, 48] := by rw [dec_big (by decide), show 10 / 10 = 1 from rfl, dec_small (by decide)]; rfl
theorem dec_18 : dec 18 = [49, 56] := by rw [dec_big (by decide), show 18 / 10 = 1 from rfl, dec_small (by decide)]; rfl
theorem ex_wr (id : Bytes) : WrOk (exP id) where
 rank := by show 1 ≤ 2 ∧ 2 ≤ 4; decide
 kind := Or.inr rfl
 value := by show 5 ≤ 1000000; decide
 cond := by rfl
 condS := by rfl
 excN := by show [[112, 50], [112, 51]].Nodup; decide
 excL := by show 2 ≤ 20; decide
 beg := by rfl
 begS := by rfl
 fin := by rfl
 finS := by rfl
 aga := by rfl
 agaS := by rfl
theorem ex_plain (id : Bytes) : plainP (upP (exP id)) := plainP_up (ex_wr id)
theorem ex_names (id : Bytes) : namesP (exP id) = [id, [116, 97, 120], [112, 50], [112, 51], [97, 103, 101], [112, 111, 111, 114], [111, 49]] := rfl
theorem ex_north : northA (upP (exP [112, 49])) = (exN, 0) := by
 rw [← refA_north (ex_plain _)]
 unfold refA
 rw [writtenR_eq (ex_plain _), if_pos (written_up (ex_wr _)), down_upP, ex_names, if_pos (by decide)]
 have : rText (exP [112, 49]) = exN := by
  unfold rText exP
  simp [rF, rFs, rS, rSs, wrapB, joinT', signs, startW, ranksN, Tree.op, dec_5, dec_10, dec_18]
 rw [this]
 decide
theorem ex_south : southA (upP (exP [112, 49])) = (exS, 0) := by
 rw [← refA_south (ex_plain _)]
 unfold refA
 rw [writtenR_eq (ex_plain _), if_pos (written_up (ex_wr _)), down_upP, ex_names, if_pos (by decide)]
 have : So.rText (exP [112, 49]) = exS := by
  unfold So.rText exP
  simp [So.rF, So.rFs, So.rS, So.rSs, joinT', So.cmpW, So.opsW, So.ranksS, Tree.op, dec_2, dec_5, dec_10, dec_18]
 rw [this]
 decide
theorem ex_where : (northA (upP (exP exW))).2 = 0 ∧ (southA (upP (exP exW))).2 = 7 := by
 constructor
 · rw [← refA_north (ex_plain _)]
   unfold refA
   rw [writtenR_eq (ex_plain _), if_pos (written_up (ex_wr _)), down_upP, ex_names, if_pos (by decide)]
   have : ∃ s, rText (exP exW) = s ∧ (shortA s).2 = 0 := by
    refine ⟨[97, 99, 116, 32, 119, 104, 101, 114, 101, 58, 32, 97, 110, 115, 119, 101, 114, 32, 116, 97, 120, 32, 105, 115, 32, 53, 32, 105, 102, 32, 97, 103, 101, 32, 62, 61, 32, 49, 56, 32, 97, 110, 100, 32, 110, 111, 116, 32, 112, 111, 111, 114, 32, 110, 111, 116, 119, 105, 116, 104, 115, 116, 97, 110, 100, 105, 110, 103, 32, 112, 50, 44, 32, 112, 51, 32, 102, 114, 111, 109, 32, 100, 97, 121, 32, 49, 48, 32, 111, 114, 32, 111, 114, 100, 101, 114, 32, 111, 49, 46], ?_, by decide⟩
    unfold rText exP
    simp [rF, rFs, rS, rSs, wrapB, joinT', signs, startW, ranksN, Tree.op, dec_5, dec_10, dec_18]
   obtain ⟨s, e, h⟩ := this
   rw [e, h]
 · rw [← refA_south (ex_plain _)]
   unfold refA
   rw [writtenR_eq (ex_plain _), if_pos (written_up (ex_wr _)), down_upP, ex_names, if_neg (by decide)]
theorem ex_five {p : ProvI} (h : p.rank = 5) : (northA p).2 = 1 ∧ (southA p).2 = 1 := by
 obtain ⟨a, b⟩ := ans_arg (p := p) (refuses_ref (by unfold refP; rw [h]; rfl))
 rw [a, b]
 exact ⟨rfl, rfl⟩
end Go.Proofs.YtbicmjmcdnkjhaaGreatDoor
set_option maxRecDepth 20000
set_option maxHeartbeats 2000000
namespace Go.Proofs.YtbicmjmcdnkjhaaGreatDoor
open Go.RowKit
def inL (l : List (List UInt8)) (s : List UInt8) : Bool := l.contains s
theorem drop_any {l : List (List UInt8)} {k : Nat} {x s : List UInt8} (hx : l[k]? = some x) : inL (l.drop k) s = (x == s || inL (l.drop (k + 1)) s) := by
 unfold inL
 obtain ⟨h1, rfl⟩ := List.getElem?_eq_some_iff.1 hx
 rw [List.drop_eq_getElem_cons h1, List.contains_cons]
 congr 1
 exact Bool.beq_comm
theorem in_any (l : List (List UInt8)) (A : Option Addr) (c : Nat) (s : List UInt8) (w : World) (hr : RdS w A l) (hl : l.length ≤ 1000000) :
 Calls Tryz.prog 19 #[.slice A l.length c, vs s] w fun e w' => e = .returned (.bool (l.contains s)) ∧ Below w.heap.size w w' := by
 have HR := Hi hr
 clear hr
 obtain ⟨b, hb0⟩ : ∃ b, l.contains s = b := ⟨_, rfl⟩
 rw [hb0]
 have HB0 := Hi hb0
 clear hb0
 go_enter Tryz.func19, Tryz.ntmps19
 go_wp2_with fail
 go_loopw [5] (fun v wr => ∃ k : Nat, k ≤ l.length ∧ v = .int .i64 k ∧ inL (l.drop k) s = b ∧ Below w.heap.size w wr) (fun v _ => l.length - (intOf v).toNat)
 case atStart => exact ⟨0, Nat.zero_le _, rfl, HB0.out, Below.refl _ _⟩
 case round =>
  obtain ⟨k, hk, rfl, heq, hb⟩ := hrel
  have HEQ := Hi heq
  have HB := Hi hb
  clear hb heq
  by_cases hlt : k < l.length
  · obtain ⟨x, hx⟩ := gLt hlt
    have HST := Hi (drop_any (s := s) hx)
    obtain ⟨g1, r1, rfl, hg1, hc1⟩ := HR.out.item hx
    have z1 : wr.cell? ⟨g1, r1 + k, none⟩ = some (vs x) := (HB.out.cell (p := ⟨g1, r1 + k, none⟩) hg1).trans hc1
    have hk1 : (k : Int) < l.length := by omega
    have hk0 : (0 : Int) ≤ k := by omega
    clear hc1 hx
    cases hxy : (x == s) with
    | true =>
      rw [hxy] at HST
      go_wp2_with fail
      go_ret
      exact ⟨by rw [← HEQ.out, HST.out, Bool.true_or]; rfl, HB.out⟩
    | false =>
      rw [hxy] at HST
      go_wp2_with fail
      exact ⟨⟨k + 1, by omega, by go_num, by rw [← HEQ.out, HST.out, Bool.false_or], HB.out⟩, by simp [intOf]; omega⟩
  · have hk' : k = l.length := by omega
    subst hk'
    have hlt2 : ¬ ((l.length : Nat) : Int) < l.length := by omega
    have hend : b = false := by rw [← HEQ.out, List.drop_length]; rfl
    have HE := Hi hend
    clear hend
    go_wp2_with fail
    go_ret
    exact ⟨by rw [HE.out]; rfl, HB.out⟩
end Go.Proofs.YtbicmjmcdnkjhaaGreatDoor
