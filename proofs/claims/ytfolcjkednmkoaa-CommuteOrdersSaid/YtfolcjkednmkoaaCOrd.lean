/- Groups that are exchanged in memory; their numbers one after the other. -/
import Derived.Test.YtfolcjkednmkoaaJVis
import Derived.Test.YtfolcjkednmkoaaCSwapL
set_option linter.unusedVariables false
set_option linter.unusedSimpArgs false
namespace Go.Proofs.Ytfolcjkednmkoaa
open Go.RowKit
def FrG (w : World) (A : Option Addr) : Prop := ∀ b, A = some ⟨b, 0, none⟩ → ∀ i, w.frozen? ⟨b, i, none⟩ = false
theorem GsR.free {w : World} {base : Nat} {A : Option Addr} {n c : Nat} {vals : List Value} {G : List (List Nat)} (h : GsR w base (.slice A n c) vals G) : FrG w A := by
  intro b hb i
  subst hb
  rcases h.own.2 with ⟨hv, h0⟩ | ⟨g, cap, cur, hv, r2, r3, r4⟩
  · cases hv
  · cases hv
    simp [World.frozen?, r3]
theorem groups_heads (ps : List Patch) (hrd : ∀ p ∈ ps, p.Ready) (hps : ps.length ≤ 1000) (B : Option Addr) (dc n : Nat) (hn : n = ps.length) (m : Int) (w : World) (hr : RdP w B ps) (hg : w.cell? ⟨0, 0, none⟩ = some (.int .i64 m)) :
    Calls Try.prog 15 #[.slice B n dc] w fun e w' => ∃ A c, e = .returned (.slice A (heads (adjF ps) ps.length).length c) ∧ RdG w' A ((heads (adjF ps) ps.length).map (comp (adjF ps) ps.length)) ∧ FrG w' A ∧ (∀ b, A = some ⟨b, 0, none⟩ → w.heap.size ≤ b) ∧ Below w.heap.size w w' := by
  subst hn
  refine (groups_any ps hrd hps B dc m w hr hg).mono ?_
  rintro e w' ⟨ov, vals, rfl, hG, hb⟩
  obtain ⟨A, c, rfl, h1, h2, h3⟩ := hG.reads
  have hf := hG.free
  have hg2 : groupsF (adjF ps) ps.length = (heads (adjF ps) ps.length).map (comp (adjF ps) ps.length) := groupsF_are (adjF ps) ps.length (fun i k h => (adjF_lt h).2) (adjF_symm ps)
  rw [hg2] at h2 ⊢
  exact ⟨A, c, by rw [List.length_map], h2, hf, h3, hb⟩
theorem RdG.swap {w : World} {b : Nat} {G : List (List Nat)} {i k : Nat} {gi gk : List Nat} {ci ck di dk : Nat} (h : RdG w (some ⟨b, 0, none⟩) G) (hi : G[i]? = some gi) (hk : G[k]? = some gk)
    (ei : w.cell? ⟨b, i, none⟩ = some (.slice (some ⟨ci, 0, none⟩) gi.length di)) (ek : w.cell? ⟨b, k, none⟩ = some (.slice (some ⟨ck, 0, none⟩) gk.length dk)) :
    RdG ((w.setCell ⟨b, i, none⟩ (.slice (some ⟨ck, 0, none⟩) gk.length dk)).setCell ⟨b, k, none⟩ (.slice (some ⟨ci, 0, none⟩) gi.length di)) (some ⟨b, 0, none⟩) ((G.set i gk).set k gi) := by
  intro _
  obtain ⟨b', hb, hlt, hc⟩ := h (get_ne hi)
  cases hb
  have hil := (List.getElem?_eq_some_iff.1 hi).1
  have hkl := (List.getElem?_eq_some_iff.1 hk).1
  obtain ⟨c1, d1, e1, l1, t1, n1, x1⟩ := hc i gi hi
  obtain ⟨c2, d2, e2, l2, t2, n2, x2⟩ := hc k gk hk
  rw [ei] at e1
  rw [ek] at e2
  cases e1
  cases e2
  have far : ∀ (c : Nat), c ≠ b → ∀ (q : Nat) v, w.cell? ⟨c, q, none⟩ = some v → ((w.setCell ⟨b, i, none⟩ (.slice (some ⟨ck, 0, none⟩) gk.length dk)).setCell ⟨b, k, none⟩ (.slice (some ⟨ci, 0, none⟩) gi.length di)).cell? ⟨c, q, none⟩ = some v := by
    intro c hcb q v hv
    rw [World.cell?_setCell_far _ _ _ _ (Ne.symm hcb), World.cell?_setCell_far _ _ _ _ (Ne.symm hcb)]
    exact hv
  have hek : ∃ u, (w.setCell ⟨b, i, none⟩ (.slice (some ⟨ck, 0, none⟩) gk.length dk)).cell? ⟨b, k, none⟩ = some u := cell?_setCell_some ek
  refine ⟨b, rfl, by simpa using hlt, fun j g hg => ?_⟩
  rw [List.getElem?_set] at hg
  by_cases hjk : k = j
  · rw [if_pos hjk, if_pos (by simpa using hkl)] at hg
    cases hg
    subst hjk
    obtain ⟨u, hu⟩ := hek
    exact ⟨ci, di, World.cell?_setCell_same _ _ _ hu, l1, by simpa using t1, n1, fun q x hx => far ci n1 q _ (x1 q x hx)⟩
  · rw [if_neg hjk, List.getElem?_set] at hg
    have hne : (⟨b, k, none⟩ : Addr) ≠ ⟨b, j, none⟩ := fun e => hjk (by injection e)
    by_cases hji : i = j
    · rw [if_pos hji, if_pos hil] at hg
      cases hg
      subst hji
      exact ⟨ck, dk, (World.cell?_setCell_other _ _ _ _ hne).trans (World.cell?_setCell_same _ _ _ ei), l2, by simpa using t2, n2, fun q x hx => far ck n2 q _ (x2 q x hx)⟩
    · rw [if_neg hji] at hg
      have hne2 : (⟨b, i, none⟩ : Addr) ≠ ⟨b, j, none⟩ := fun e => hji (by injection e)
      obtain ⟨c3, d3, e3, l3, t3, n3, x3⟩ := hc j g hg
      exact ⟨c3, d3, (World.cell?_setCell_other _ _ _ _ hne).trans ((World.cell?_setCell_other _ _ _ _ hne2).trans e3), l3, by simpa using t3, n3, fun q x hx => far c3 n3 q _ (x3 q x hx)⟩
/- the numbers passed, when i groups and k of the next one are -/
def tl (G : List (List Nat)) (f : Nat → Patch) (i k : Nat) : List Patch := ((G.take i).flatten ++ (G.getD i []).take k).map f
theorem tl_zero (G : List (List Nat)) (f : Nat → Patch) : tl G f 0 0 = [] := by simp [tl]
theorem tl_next {G : List (List Nat)} {f : Nat → Patch} {i k x : Nat} {g : List Nat} (hg : G[i]? = some g) (hx : g[k]? = some x) : tl G f i (k + 1) = tl G f i k ++ [f x] := by
  unfold tl
  rw [List.getD_eq_getElem?_getD, hg, Option.getD_some, List.take_add_one, hx]
  simp
theorem tl_up {G : List (List Nat)} {f : Nat → Patch} {i : Nat} {g : List Nat} (hg : G[i]? = some g) : tl G f i g.length = tl G f (i + 1) 0 := by
  unfold tl
  rw [List.getD_eq_getElem?_getD, hg, Option.getD_some, List.take_length, List.take_add_one, hg, List.take_zero]
  simp
theorem tl_end (G : List (List Nat)) (f : Nat → Patch) : tl G f G.length 0 = G.flatten.map f := by simp [tl]
theorem tl_len (G : List (List Nat)) (f : Nat → Patch) (i k : Nat) : (tl G f i k).length ≤ G.flatten.length := by
  unfold tl
  rw [List.length_map, List.length_append]
  have e : (G.take i).flatten.length + (G.drop i).flatten.length = G.flatten.length := by rw [← List.length_append, ← List.flatten_append, List.take_append_drop]
  have h2 : ((G.getD i []).take k).length ≤ (G.drop i).flatten.length := by
    by_cases hi : i < G.length
    · rw [List.drop_eq_getElem_cons hi, List.flatten_cons, List.length_append, List.getD_eq_getElem?_getD, List.getElem?_eq_getElem hi, Option.getD_some, List.length_take]
      omega
    · rw [List.getD_eq_getElem?_getD, List.getElem?_eq_none (by omega)]
      simp
  omega
end Go.Proofs.Ytfolcjkednmkoaa
