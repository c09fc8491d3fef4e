/- A condition has at most as many nodes as items. -/
import Derived.Test.YtcekampdldkjlaaGreatDoorSOut
set_option linter.unusedVariables false
set_option linter.unusedSimpArgs false
namespace Go.Proofs.YtcekampdldkjlaaGreatDoor
open Go.RowKit
def total : Stack → Nat
  | [] => 0
  | x :: r => x.1.size + total r
theorem total_app : ∀ (a b : Stack), total (a ++ b) = total a + total b
  | [], b => by simp [total]
  | x :: r, b => by rw [List.cons_append, total, total, total_app r b]; omega
theorem sizes_map : ∀ (a : Stack), sizes (a.map (·.1)) = total a
  | [] => rfl
  | x :: r => by rw [List.map_cons, sizes, total, sizes_map r]
theorem combine_size {op k : Nat} {a r r' : List Tok} {st st' : Stack} (h : combineF op k a st r = .ok (st', r')) : total st' = total st + 1 := by
  rcases combine_out (op := op) (k := k) (at' := a) (st := st) (r := r) with ⟨-, h2⟩ | ⟨n, h1, ⟨-, h2⟩ | ⟨-, h2⟩⟩
  · rw [h2] at h; cases h
  · rw [h2] at h; cases h
  · rw [h2] at h; cases h
    have := congrArg total (List.take_append_drop n st)
    rw [total_app] at this
    rw [total_app, total, total, Tree.size, sizes_map]
    omega
theorem group_size {op : Nat} {a r r' : List Tok} {st st' : Stack} (h : groupF op a st r = .ok (st', r')) : total st' = total st + 1 := by
  unfold groupF at h
  obtain ⟨k, r2, -, h⟩ := bind_ok h
  split at h
  · cases h
  · exact combine_size h
theorem push_size {st st' : Stack} {op : Nat} {nm : List UInt8} {cm m : Nat} {r r' : List Tok} (h : pushF st (.mk op nm cm m []) r = .ok (st', r')) : total st' = total st + 1 := by
  unfold pushF at h
  cases h
  rw [total_app]
  simp [total, Tree.size, sizes]
theorem item_size_f {st st' : Stack} {l r : List Tok} (h : itemF st l = .ok (st', r)) : total st' = total st + 1 := by
  unfold itemF at h
  rcases isF_ok h with h | h
  · exact push_size h
  rcases isF_ok h with h | h
  · exact push_size h
  rcases isF_ok h with h | h
  · exact combine_size h
  rcases isF_ok h with h | h
  · exact group_size h
  rcases isF_ok h with h | h
  · exact group_size h
  obtain ⟨s, r1, -, h⟩ := bind_ok h
  rcases isF_ok h with h | h
  · exact push_size h
  unfold testF at h
  obtain ⟨v, r2, -, h⟩ := bind_ok h
  obtain ⟨c, r3, -, h⟩ := bind_ok h
  exact push_size h
theorem item_size_s {st st' : Stack} {l r : List Tok} (h : sitemF st l = .ok (st', r)) : total st' = total st + 1 := by
  unfold sitemF at h
  rcases isF_ok h with h | h
  · exact push_size h
  rcases isF_ok h with h | h
  · exact push_size h
  rcases isF_ok h with h | h
  · exact group_size h
  rcases isF_ok h with h | h
  · exact group_size h
  split at h
  · obtain ⟨v, r2, -, h⟩ := bind_ok h
    obtain ⟨c, r3, -, h⟩ := bind_ok h
    exact push_size h
  · obtain ⟨v, r2, -, h⟩ := bind_ok h
    obtain ⟨c, r3, -, h⟩ := bind_ok h
    exact push_size h
theorem loop_size {begins : List Tok → Bool} {item : Stack → List Tok → R Stack} (hi : ∀ st st' l r, item st l = .ok (st', r) → total st' = total st + 1) : ∀ (f : Nat) (st st' : Stack) (l r : List Tok), loopF begins item f st l = .ok (st', r) → total st' ≤ total st + (f - 1)
  | 0, st, st', l, r, h => by cases h
  | f + 1, st, st', l, r, h => by
    unfold loopF at h
    split at h
    · cases h; omega
    split at h
    · split at h
      · cases h
      · obtain ⟨s2, r2, h1, h2⟩ := bind_ok h
        have := loop_size hi f _ _ _ _ h2
        have := hi _ _ _ _ h1
        omega
    · cases h
theorem braces_size {begins : List Tok → Bool} {item : Stack → List Tok → R Stack} (hi : ∀ st st' l r, item st l = .ok (st', r) → total st' = total st + 1) {l r : List Tok} {t : Tree} (h : bracesF begins item l = .ok (t, r)) : t.size ≤ 200 := by
  unfold bracesF at h
  obtain ⟨u, r1, -, h⟩ := bind_ok h
  obtain ⟨st, r2, h1, h⟩ := bind_ok h
  have := loop_size hi _ _ _ _ _ h1
  match st, h with
  | [], h => cases h
  | [x], h =>
    obtain ⟨u, r3, -, h⟩ := bind_ok h
    cases h
    simp [total] at this
    exact this
  | _ :: _ :: _, h => cases h
theorem formula_size {l r : List Tok} {t : Tree} (h : formulaF l = .ok (t, r)) : t.size ≤ 200 := braces_size (fun _ _ _ _ => item_size_f) h
theorem start_size {l r : List Tok} {t : Tree} (h : startF l = .ok (t, r)) : t.size ≤ 200 := braces_size (fun _ _ _ _ => item_size_s) h
theorem names_few : ∀ (n : Nat) (out e : List (List UInt8)) (l r : List Tok), out.length ≤ 20 → namesF n out l = .ok (e, r) → e.length ≤ 20
  | 0, out, e, l, r, ho, h => by cases h
  | n + 1, out, e, l, r, ho, h => by
    unfold namesF at h
    obtain ⟨s, r1, -, h⟩ := bind_ok h
    unfold guardR at h
    split at h
    · rename_i hc
      unfold excC at hc
      split at hc
      · cases hc
      split at hc
      · cases hc
      rcases isF_ok h with h | h
      · cases h; simp; omega
      · exact names_few n _ e _ r (by simp; omega) h
    · cases h
theorem exc_few {l r : List Tok} {e : List (List UInt8)} (h : excF l = .ok (e, r)) : e.length ≤ 20 := by
  unfold excF at h
  obtain ⟨u, r1, -, h⟩ := bind_ok h
  exact names_few 22 [] e _ _ (by simp) h
theorem opt_ok {α : Type} {w : List UInt8} {d : α} {p : List Tok → R α} {l : List Tok} {y : α × List Tok} (h : optR w d p l = .ok y) : (seesF [w] l = true ∧ p l.tail = .ok y) ∨ (seesF [w] l = false ∧ y = (d, l)) := by
  unfold optR isF at h
  cases hs : seesF [w] l with
  | true => rw [hs, if_pos rfl] at h; exact .inl ⟨rfl, h⟩
  | false => rw [hs] at h; exact .inr ⟨rfl, by cases h; rfl⟩
/- what a provision is -/
theorem prov_small {l r : List Tok} {P : Prov} (h : provF l = .ok (P, r)) : P.cond.size ≤ 200 ∧ P.beg.size ≤ 200 ∧ P.fin.size ≤ 200 ∧ P.aga.size ≤ 200 ∧ P.exc.length ≤ 20 := by
  unfold provF at h
  obtain ⟨c, r1, hc, h⟩ := bind_ok h
  obtain ⟨k, r2, hk, h⟩ := bind_ok h
  obtain ⟨e, r3, he, h⟩ := bind_ok h
  obtain ⟨b, r4, hb, h⟩ := bind_ok h
  obtain ⟨f, r5, hf, h⟩ := bind_ok h
  obtain ⟨g, r6, hg, h⟩ := bind_ok h
  obtain ⟨u1, r7, -, h⟩ := bind_ok h
  obtain ⟨u2, r8, -, h⟩ := bind_ok h
  obtain ⟨u3, r9, -, h⟩ := bind_ok h
  obtain ⟨u4, r10, -, h⟩ := bind_ok h
  cases h
  refine ⟨?_, ?_, ?_, ?_, ?_⟩
  · rcases opt_ok hc with ⟨-, h⟩ | ⟨-, h⟩
    · exact formula_size h
    · cases h; show (leafT 1).size ≤ 200; decide
  · rcases opt_ok hb with ⟨-, h⟩ | ⟨-, h⟩
    · exact start_size h
    · cases h; show (leafT 1).size ≤ 200; decide
  · rcases opt_ok hf with ⟨-, h⟩ | ⟨-, h⟩
    · exact start_size h
    · cases h; show (leafT 2).size ≤ 200; decide
  · rcases opt_ok hg with ⟨-, h⟩ | ⟨-, h⟩
    · exact start_size h
    · cases h; show (leafT 2).size ≤ 200; decide
  · rcases opt_ok he with ⟨-, h⟩ | ⟨-, h⟩
    · exact exc_few h
    · cases h; show ([] : List (List UInt8)).length ≤ 20; decide
theorem parse_prov {l : List UInt8} {p : Prov} (h : parseF l = .ok p) : ∃ ts, lexF l = .ok ts ∧ provF ts = .ok (p, []) := by
  unfold parseF at h
  cases hl : lexF l with
  | error e => simp only [hl] at h; cases h
  | ok ts =>
    simp only [hl] at h
    cases hp : pr ts with
    | error e => simp only [hp] at h; cases h
    | ok v =>
      obtain ⟨q, s⟩ := v
      simp only [hp] at h
      cases h
      obtain rfl := pr_nil hp
      refine ⟨ts, rfl, ?_⟩
      unfold pr endF at hp
      cases hq : provF ts with
      | error e => rw [hq] at hp; cases hp
      | ok v =>
        obtain ⟨q2, r2⟩ := v
        rw [hq] at hp
        cases r2 with
        | nil => cases hp; rfl
        | cons t r => cases hp
theorem out_small (l : List UInt8) : (outP l).cond.size ≤ 1000000 ∧ (outP l).beg.size ≤ 1000000 ∧ (outP l).fin.size ≤ 1000000 ∧ (outP l).aga.size ≤ 1000000 ∧ (outP l).exc.length ≤ 1000000 := by
  unfold outP
  split
  · rename_i p h
    obtain ⟨ts, -, hp⟩ := parse_prov h
    have := prov_small hp
    omega
  · exact ⟨by decide, by decide, by decide, by decide, by decide⟩
end Go.Proofs.YtcekampdldkjlaaGreatDoor
