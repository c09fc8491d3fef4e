/- What a provision that was read is like. -/
import Derived.Test.YtcekampdldkjlaaDoorSFirst
set_option linter.unusedVariables false
set_option linter.unusedSimpArgs false
namespace Go.Proofs.YtcekampdldkjlaaDoor
open Go.RowKit
theorem out_at {l : List UInt8} (h : outE l ≠ 0) : outP l = zeroP ∧ outA l ≤ l.length := by
  refine ⟨out_zero h, ?_⟩
  by_cases h0 : lexE l = 0
  · have hlx := lexE_zero h0
    obtain ⟨hsc, hlen, hll⟩ := lexF_ok hlx
    rcases hp : pr (lexT l) with ⟨e, s⟩ | ⟨p, s⟩
    · rw [(out_err hlx hp).2.2]
      rcases Det.pr.err _ _ _ hp with ⟨rfl, -⟩ | ⟨u, t, v, rfl, hts, -⟩
      · exact Int.le_refl _
      · have hpl := sc_placed l 0
        rw [hsc] at hpl
        have := hpl.mem t (by rw [hts]; simp)
        simp only [posAt]; omega
    · exact absurd (out_ok hlx hp).2.1 h
  · rw [(out_no h0).2.2]
    unfold lexA
    unfold lexE at h0
    split at h0
    · exact absurd rfl h0
    · rename_i e a hx
      rcases lexF_err hx with h | h <;> omega
theorem out_a0 {l : List UInt8} (h : outE l = 0) : outA l = 0 := by
  unfold outA
  unfold outE at h
  cases hp : parseF l with
  | ok p => rfl
  | error v =>
    exfalso
    rw [hp] at h
    by_cases h0 : lexE l = 0
    · have hlx := lexE_zero h0
      rw [parseF_pr hlx] at hp
      rcases hq : pr (lexT l) with ⟨e, s⟩ | ⟨p, s⟩
      · rw [hq] at hp
        cases hp
        exact (pr_err_ne hq).1 h
      · rw [hq] at hp; cases hp
    · have := (out_no h0).1
      unfold outE at this
      rw [hp] at this
      exact h0 (this.symm.trans h)
theorem outE_ok {l : List UInt8} (h : outE l = 0) : parseF l = .ok (outP l) := by
  unfold outP
  cases hp : parseF l with
  | ok p => rfl
  | error v =>
    exfalso
    unfold outE at h
    rw [hp] at h
    by_cases h0 : lexE l = 0
    · have hlx := lexE_zero h0
      rw [parseF_pr hlx] at hp
      rcases hq : pr (lexT l) with ⟨e, s⟩ | ⟨p, s⟩
      · rw [hq] at hp
        cases hp
        exact (pr_err_ne hq).1 h
      · rw [hq] at hp; cases hp
    · have := (out_no h0).1
      unfold outE at this
      rw [hp] at this
      exact h0 (this.symm.trans h)
mutual
def FormT : Tree → Prop
  | .mk op name _ n ks => n ≤ 1000000 ∧ FormL ks ∧ ((op = 1 ∨ op = 2) ∧ name = [] ∧ ks = [] ∨ (op = 3 ∨ op = 4) ∧ goodName name = true ∧ ks = [] ∨ op = 5 ∧ name = [] ∧ ks.length = 1 ∨ (op = 6 ∨ op = 7) ∧ name = [] ∧ 2 ≤ ks.length)
def FormL : List Tree → Prop
  | [] => True
  | t :: r => FormT t ∧ FormL r
end
theorem formL_mem {l : List Tree} (h : ∀ t ∈ l, FormT t) : FormL l := by
  induction l with
  | nil => trivial
  | cons t r ih => exact ⟨h t (by simp), ih fun x hx => h x (by simp [hx])⟩
theorem mem_f : ∀ {ks : List Tree} {k : Nat} {x : Tree}, FormL ks → ks[k]? = some x → FormT x
  | [], k, x, _, h => by simp at h
  | t :: r, 0, x, h, hx => by simp at hx; subst hx; exact h.1
  | t :: r, k + 1, x, h, hx => mem_f h.2 (by simpa using hx)
def AllN (l : List Tok) : Prop := ∀ t ∈ l, TokN t
theorem AllN.tail {l : List Tok} (h : AllN l) : AllN l.tail := fun t ht => h t (List.mem_of_mem_tail ht)
theorem Det.rest {α : Type} {P : List Tok → R α} (hP : Det P) {l r : List Tok} {x : α} (h : P l = .ok (x, r)) (hl : AllN l) : AllN r := by
  obtain ⟨u, rfl, -⟩ := hP.ok _ _ _ h
  exact fun t ht => hl t (by simp [ht])
theorem name_good {l r : List Tok} {s : List UInt8} (hl : AllN l) (h : nameF l = .ok (s, r)) : goodName s = true := by
  cases l with
  | nil => cases h
  | cons t r0 =>
    simp only [nameF] at h
    split at h
    · rename_i hk
      cases h
      simp at hk
      exact hl t (by simp) hk.1 hk.2
    · cases h
theorem limit_le {m v : Nat} {l r : List Tok} (h : limitF m l = .ok (v, r)) : v ≤ m := by
  unfold limitF at h
  obtain ⟨a, r1, -, h⟩ := bind_ok h
  split at h
  · cases h
  · cases h; omega
theorem choose_lt {ws : List (List UInt8)} {l r : List Tok} {i : Nat} (h : chooseF ws l = .ok (i, r)) : i < ws.length := by
  cases l with
  | nil => cases h
  | cons t r0 =>
    simp only [chooseF] at h
    split at h
    · split at h
      · rename_i j hj
        cases h
        unfold List.idxOf? at hj
        rw [List.findIdx?_eq_some_iff_getElem] at hj
        exact hj.1
      · cases h
    · cases h
def StOk (st : Stack) : Prop := ∀ x ∈ st, FormT x.1 ∧ x.1.deep = x.2 ∧ x.2 ≤ 20
theorem foldl_deep : ∀ (st : Stack) (d : Nat), (∀ x ∈ st, x.1.deep = x.2) → st.foldl (fun d x => max d (x.2 + 1)) d = max d (if st = [] then 0 else deeps (st.map (·.1)) + 1)
  | [], d, _ => by simp
  | x :: r, d, h => by
    rw [List.foldl_cons, foldl_deep r _ (fun y hy => h y (by simp [hy])), List.map_cons]
    simp only [deeps, h x (by simp)]
    cases r with
    | nil => simp [deeps]
    | cons y r => simp <;> omega
theorem deepK_eq {st : Stack} (h : ∀ x ∈ st, x.1.deep = x.2) : deepK st = deeps (st.map (·.1)) + 1 := by
  unfold deepK
  rw [foldl_deep st 1 h]
  cases st with
  | nil => simp [deeps]
  | cons x r => simp
theorem stOk_snoc {st : Stack} {x : Tree × Nat} (h : StOk st) (hx : FormT x.1 ∧ x.1.deep = x.2 ∧ x.2 ≤ 20) : StOk (st ++ [x]) := by
  intro y hy
  simp at hy
  rcases hy with hy | rfl
  · exact h y hy
  · exact hx
theorem combine_good {op k : Nat} {a r r' : List Tok} {st st' : Stack} (hs : StOk st) (ho : op = 5 ∧ k = 1 ∨ (op = 6 ∨ op = 7) ∧ 2 ≤ k) (h : combineF op k a st r = .ok (st', r')) : StOk st' := by
  rcases combine_out (op := op) (k := k) (at' := a) (st := st) (r := r) with ⟨-, h2⟩ | ⟨n, h1, ⟨-, h2⟩ | ⟨h3, h2⟩⟩
  · rw [h2] at h; cases h
  · rw [h2] at h; cases h
  · rw [h2] at h; cases h
    have hd : ∀ x ∈ st.drop n, FormT x.1 ∧ x.1.deep = x.2 ∧ x.2 ≤ 20 := fun x hx => hs x (List.mem_of_mem_drop hx)
    refine stOk_snoc (fun x hx => hs x (List.mem_of_mem_take hx)) ⟨?_, ?_, h3⟩
    · unfold FormT
      refine ⟨by omega, formL_mem fun t ht => ?_, ?_⟩
      · obtain ⟨x, hx, rfl⟩ := List.mem_map.1 ht
        exact (hd x hx).1
      · have hlen : ((st.drop n).map (·.1)).length = k := by simp; omega
        rcases ho with ⟨rfl, rfl⟩ | ⟨ho, hk⟩
        · exact .inr (.inr (.inl ⟨rfl, rfl, hlen⟩))
        · exact .inr (.inr (.inr ⟨ho, rfl, by omega⟩))
    · show deeps _ + 1 = _
      rw [deepK_eq fun x hx => (hd x hx).2.1]
theorem group_good {op : Nat} {a r r' : List Tok} {st st' : Stack} (hs : StOk st) (ho : op = 6 ∨ op = 7) (h : groupF op a st r = .ok (st', r')) : StOk st' := by
  unfold groupF at h
  obtain ⟨k, r2, -, h⟩ := bind_ok h
  split at h
  · cases h
  · exact combine_good hs (.inr ⟨ho, by omega⟩) h
theorem push_good {op m cm : Nat} {nm : List UInt8} {st st' : Stack} {r r' : List Tok} (hs : StOk st) (hx : FormT (.mk op nm cm m [])) (h : pushF st (.mk op nm cm m []) r = .ok (st', r')) : StOk st' := by
  unfold pushF at h
  cases h
  exact stOk_snoc hs ⟨hx, by simp [Tree.deep, deeps], by omega⟩
theorem item_good {st st' : Stack} {l r : List Tok} (hs : StOk st) (hl : AllN l) (h : itemF st l = .ok (st', r)) : StOk st' := by
  unfold itemF at h
  rcases isF_ok h with h | h
  · exact push_good hs (by unfold FormT; exact ⟨by omega, trivial, .inl ⟨.inl rfl, rfl, rfl⟩⟩) h
  rcases isF_ok h with h | h
  · exact push_good hs (by unfold FormT; exact ⟨by omega, trivial, .inl ⟨.inr rfl, rfl, rfl⟩⟩) h
  rcases isF_ok h with h | h
  · exact combine_good hs (.inl ⟨rfl, rfl⟩) h
  rcases isF_ok h with h | h
  · exact group_good hs (.inl rfl) h
  rcases isF_ok h with h | h
  · exact group_good hs (.inr rfl) h
  obtain ⟨s, r1, hn, h⟩ := bind_ok h
  have hg := name_good hl hn
  rcases isF_ok h with h | h
  · exact push_good hs (by unfold FormT; exact ⟨by omega, trivial, .inr (.inl ⟨.inr rfl, hg, rfl⟩)⟩) h
  unfold testF at h
  obtain ⟨v, r2, hv, h⟩ := bind_ok h
  obtain ⟨c, r3, -, h⟩ := bind_ok h
  exact push_good hs (by unfold FormT; exact ⟨limit_le hv, trivial, .inr (.inl ⟨.inl rfl, hg, rfl⟩)⟩) h
theorem loop_good : ∀ (f : Nat) (st st' : Stack) (l r : List Tok), StOk st → AllN l → loopF beginsF itemF f st l = .ok (st', r) → StOk st'
  | 0, st, st', l, r, _, _, h => by cases h
  | f + 1, st, st', l, r, hs, hl, h => by
    unfold loopF at h
    split at h
    · cases h; exact hs
    split at h
    · split at h
      · cases h
      · obtain ⟨s2, r2, h1, h2⟩ := bind_ok h
        exact loop_good f _ _ _ _ (item_good hs hl h1) ((Det.item st).rest h1 hl) h2
    · cases h
theorem formula_good {l r : List Tok} {t : Tree} (hl : AllN l) (h : formulaF l = .ok (t, r)) : FormT t ∧ t.deep ≤ 20 := by
  unfold formulaF bracesF at h
  obtain ⟨u, r1, h0, h⟩ := bind_ok h
  obtain ⟨st, r2, h1, h⟩ := bind_ok h
  have hst := loop_good _ _ _ _ _ (fun x hx => by cases hx) ((Det.must _).rest h0 hl) h1
  match st, h, hst with
  | [], h, _ => cases h
  | [x], h, hst =>
    obtain ⟨u, r3, -, h⟩ := bind_ok h
    cases h
    have := hst x (by simp)
    exact ⟨this.1, by omega⟩
  | _ :: _ :: _, h, _ => cases h
/- different names -/
def ExcOk (l : List (List UInt8)) : Prop := l.length ≤ 20 ∧ (∀ s ∈ l, goodName s = true) ∧ ∀ (i : Nat) s, l[i]? = some s → s ∉ l.take i
theorem excOk_snoc {l : List (List UInt8)} {s : List UInt8} (h : ExcOk l) (hs : goodName s = true) (he : excC l s = 0) : ExcOk (l ++ [s]) := by
  unfold excC at he
  split at he
  · cases he
  · rename_i hc
    split at he
    · cases he
    · rename_i h20
      obtain ⟨h1, h2, h3⟩ := h
      refine ⟨by simp; omega, fun x hx => ?_, fun i x hx => ?_⟩
      · simp at hx
        rcases hx with hx | rfl
        · exact h2 x hx
        · exact hs
      · rcases Nat.lt_or_ge i l.length with hi | hi
        · rw [List.getElem?_append_left hi] at hx
          rw [List.take_append_of_le_length (Nat.le_of_lt hi)]
          exact h3 i x hx
        · rw [List.getElem?_append_right hi] at hx
          have : i - l.length = 0 := by
            rcases Nat.eq_zero_or_pos (i - l.length) with h0 | h0
            · exact h0
            · rw [List.getElem?_eq_none (by simp; omega)] at hx; cases hx
          rw [this] at hx
          simp at hx
          subst hx
          have : i = l.length := by omega
          subst this
          rw [List.take_left]
          intro hm
          exact hc (by simpa using hm)
theorem names_good : ∀ (n : Nat) (out e : List (List UInt8)) (l r : List Tok), ExcOk out → AllN l → namesF n out l = .ok (e, r) → ExcOk e
  | 0, out, e, l, r, _, _, h => by cases h
  | n + 1, out, e, l, r, ho, hl, h => by
    unfold namesF at h
    obtain ⟨s, r1, hn, h⟩ := bind_ok h
    have hr1 := Det.name.rest hn hl
    unfold guardR at h
    split at h
    · rename_i hc
      have hok := excOk_snoc ho (name_good hl hn) hc
      rcases isF_ok h with h | h
      · cases h; exact hok
      · exact names_good n _ e _ r hok hr1 h
    · cases h
theorem excOk_nil : ExcOk [] := ⟨by simp, by simp, by simp⟩
theorem exc_good {l r : List Tok} {e : List (List UInt8)} (hl : AllN l) (h : excF l = .ok (e, r)) : ExcOk e := by
  unfold excF at h
  obtain ⟨u, r1, h0, h⟩ := bind_ok h
  exact names_good 22 [] e _ _ excOk_nil ((Det.must _).rest h0 hl) h
theorem kind_good {l r : List Tok} {k : Nat × List UInt8 × Nat} (hl : AllN l) (h : kindF l = .ok (k, r)) : (k.1 = 1 ∧ k.2.2 = 0 ∨ k.1 = 2) ∧ goodName k.2.1 = true ∧ k.2.2 ≤ 1000000 := by
  unfold kindF at h
  rcases isF_ok h with h | h
  · obtain ⟨s, r1, hn, h⟩ := bind_ok h
    cases h
    exact ⟨.inl ⟨rfl, rfl⟩, name_good hl.tail hn, by show 0 ≤ _; omega⟩
  · obtain ⟨u, r1, h1, h⟩ := bind_ok h
    obtain ⟨s, r2, h2, h⟩ := bind_ok h
    obtain ⟨u2, r3, h3, h⟩ := bind_ok h
    obtain ⟨v, r4, h4, h⟩ := bind_ok h
    cases h
    exact ⟨.inr rfl, name_good ((Det.must _).rest h1 hl) h2, limit_le h4⟩
structure ProvOk (p : Prov) : Prop where
  rank : 1 ≤ p.rank ∧ p.rank ≤ 4
  kind : p.kind = 1 ∧ p.value = 0 ∨ p.kind = 2
  id : goodName p.id = true
  name : goodName p.name = true
  value : p.value ≤ 1000000
  exc : ExcOk p.exc
  cond : FormT p.cond ∧ p.cond.deep ≤ 20
  size : p.cond.size ≤ 200
theorem prov_good {l r : List Tok} {p : Prov} (hl : AllN l) (h : provF l = .ok (p, r)) : ProvOk p := by
  have hsm := prov_small h
  unfold provF at h
  obtain ⟨c, r1, hc, h⟩ := bind_ok h
  obtain ⟨k, r2, hk, h⟩ := bind_ok h
  obtain ⟨e, r3, he, h⟩ := bind_ok h
  obtain ⟨b, r4, hb, h⟩ := bind_ok h
  obtain ⟨f, r5, hf, h⟩ := bind_ok h
  obtain ⟨g, r6, hg, h⟩ := bind_ok h
  obtain ⟨u1, r7, h7, h⟩ := bind_ok h
  obtain ⟨rk, r8, h8, h⟩ := bind_ok h
  obtain ⟨id, r9, h9, h⟩ := bind_ok h
  obtain ⟨u4, r10, -, h⟩ := bind_ok h
  cases h
  have l1 := (Det.opt _ _ Det.formula).rest hc hl
  have l2 := Det.kind.rest hk l1
  have l3 := (Det.opt _ _ Det.exc).rest he l2
  have l4 := (Det.opt _ _ Det.start).rest hb l3
  have l5 := (Det.opt _ _ Det.start).rest hf l4
  have l6 := (Det.opt _ _ Det.start).rest hg l5
  have l7 := (Det.must _).rest h7 l6
  have l8 := (Det.choose _).rest h8 l7
  have hkg := kind_good l1 hk
  have hrk := choose_lt h8
  refine ⟨⟨by show 1 ≤ 1 + rk; omega, by show 1 + rk ≤ 4; simp at hrk; omega⟩, hkg.1, name_good l8 h9, hkg.2.1, hkg.2.2, ?_, ?_, hsm.1⟩
  · rcases opt_ok he with ⟨-, h⟩ | ⟨-, h⟩
    · exact exc_good l2.tail h
    · cases h; exact excOk_nil
  · rcases opt_ok hc with ⟨-, h⟩ | ⟨-, h⟩
    · exact formula_good hl.tail h
    · cases h
      refine ⟨?_, by show (leafT 1).deep ≤ 20; decide⟩
      show FormT (leafT 1)
      unfold leafT FormT
      exact ⟨by omega, trivial, .inl ⟨.inl rfl, rfl, rfl⟩⟩
theorem lex_allN {l : List UInt8} {ts : List Tok} (h : lexF l = .ok ts) : AllN ts := by
  obtain ⟨hsc, -, -⟩ := lexF_ok h
  intro t ht
  exact tokN_of_ok (sc_ok l 0 t (by rw [hsc]; exact ht))
theorem out_good {l : List UInt8} (h : outE l = 0) : ProvOk (outP l) := by
  obtain ⟨ts, h1, h2⟩ := parse_prov (outE_ok h)
  exact prov_good (lex_allN h1) h2
end Go.Proofs.YtcekampdldkjlaaDoor
