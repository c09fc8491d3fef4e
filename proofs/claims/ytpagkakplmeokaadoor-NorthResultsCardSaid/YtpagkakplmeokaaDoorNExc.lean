/- except: the names of provisions. -/
import Derived.Test.YtpagkakplmeokaaDoorNWhen
set_option linter.unusedVariables false
set_option linter.unusedSimpArgs false
namespace Go.Proofs.YtpagkakplmeokaaDoor
open Go.RowKit
theorem ixS_neg {l : List (List UInt8)} {s : List UInt8} (h : l.contains s = false) : ixS l s = none := by
  unfold ixS
  rw [List.findIdx?_eq_none_iff]
  intro x hx
  cases hb : (s == x) with
  | false => rfl
  | true =>
    have : s = x := by simpa using hb
    subst this
    simp at h
    exact absurd hx h
theorem ixS_pos {l : List (List UInt8)} {s : List UInt8} (h : l.contains s = true) : ∃ i, ixS l s = some i := by
  cases hi : ixS l s with
  | some i => exact ⟨i, rfl⟩
  | none =>
    unfold ixS at hi
    rw [List.findIdx?_eq_none_iff] at hi
    simp at h
    have := hi s h
    simp at this
set_option maxRecDepth 20000 in
set_option maxHeartbeats 400000 in
theorem containsS_any (l : List (List UInt8)) (A : Option Addr) (c : Nat) (s : List UInt8) (w : World) (hr : RdS w A l) (hl : l.length ≤ 1000) :
    Calls Tryd.prog 60 #[.slice A l.length c, vs s] w fun e w' => e = .returned (.bool (l.contains s)) ∧ w = w' := by
  have HR := Lib.hid hr
  clear hr
  cases hc : l.contains s with
  | true =>
    obtain ⟨i, hi⟩ := ixS_pos hc
    have HI := Lib.hid hi
    have h0 : (0 : Int) ≤ i := by omega
    clear hi hc
    go_enter Tryd.func60, Tryd.ntmps60
    go_wp2_with fail
    refine (indexS_any l A c s _ HR.out (by unfold maxLen; omega)).mono ?_
    rintro e w1 ⟨rfl, rfl⟩
    rw [HI.out]
    go_wp2_with fail
    go_ret
    exact ⟨rfl, rfl⟩
  | false =>
    have HI := Lib.hid (ixS_neg hc)
    clear hc
    go_enter Tryd.func60, Tryd.ntmps60
    go_wp2_with fail
    refine (indexS_any l A c s _ HR.out (by unfold maxLen; omega)).mono ?_
    rintro e w1 ⟨rfl, rfl⟩
    rw [HI.out]
    go_wp2_with fail
    go_ret
    exact ⟨rfl, rfl⟩
/- a row of strings that the call owns -/
abbrev OwnS (w : World) (base : Nat) (v : Value) (l : List (List UInt8)) : Prop := w.ownsRow base 9 1 v l.length (l.map vs)
theorem OwnS.form {w : World} {base : Nat} {v : Value} {l : List (List UInt8)} (h : OwnS w base v l) : ∃ A cap, v = .slice A l.length cap ∧ l.length ≤ cap ∧ RdS w A l ∧ ∀ b o, A = some ⟨b, o, none⟩ → base ≤ b ∧ b < w.heap.size := by
  rcases h.2 with ⟨hv, h0⟩ | ⟨g, cap, cur, rfl, r2, r3, r4, r5, r6, r7⟩
  · refine ⟨none, 0, ?_, by omega, ?_, fun b o e => by cases e⟩
    · rw [hv, h0]
    · have := List.length_eq_zero_iff.1 h0
      subst this
      exact Sl.nil
  · refine ⟨_, cap, rfl, r4, ?_, fun b o e => by cases e; exact ⟨r2, lt_of_heap' r3⟩⟩
    intro hne
    refine ⟨g, 0, rfl, lt_of_heap' r3, fun k x hx j u hu => ?_⟩
    cases j with
    | succ j => simp at hu
    | zero =>
      simp at hu
      subst hu
      refine cell_of_blk r3 ?_
      have hk : (l.map vs)[k]? = some (vs x) := by simp [hx]
      rw [← r7, List.getElem?_take] at hk
      split at hk
      · rw [← Array.getElem?_toList]; simpa using hk
      · cases hk
theorem OwnS.keep {w w' : World} {base : Nat} {v : Value} {l : List (List UInt8)} (h : OwnS w base v l) (hk : ∀ b, base ≤ b → b < w.heap.size → w'.heap[b]? = w.heap[b]?) : OwnS w' base v l := by
  refine ⟨h.1, ?_⟩
  rcases h.2 with h | ⟨g, cap, cur, rfl, r2, r3, r4⟩
  · exact .inl h
  · exact .inr ⟨g, cap, cur, rfl, r2, (hk g r2 (lt_of_heap' r3)).trans r3, r4⟩
theorem OwnS.eff {p : Nat} {w w' : World} {base : Nat} {v : Value} {l : List (List UInt8)} (h : OwnS w base v l) (he : Eff p w w') (hp : p < base) : OwnS w' base v l :=
  h.keep (fun b hb hlt => he.block b hlt (by omega))
theorem OwnS.nil {w : World} {base : Nat} : OwnS w base (.slice none 0 0) [] := ⟨rfl, .inl ⟨rfl, rfl⟩⟩
theorem OwnS.own {w : World} {base : Nat} {v : Value} {l : List (List UInt8)} (h : OwnS w base v l) : ∀ b, v.ownBlock = some b → base ≤ b ∧ b < w.heap.size := by
  rcases h.2 with ⟨hv, h0⟩ | ⟨g, cap, cur, rfl, r2, r3, r4⟩
  · intro b hb
    rw [hv] at hb
    simp [Value.ownBlock] at hb
  · intro b hb
    simp [Value.ownBlock] at hb
    subst hb
    exact ⟨r2, lt_of_heap' r3⟩
theorem info_str : (Tryd.prog.info? 9).map (fun i => (i.zero, i.size, i.bytes)) = some (some (.string ⟨#[]⟩), 1, 16) := by kernel_rfl
theorem wpList_append_str {ops : Array Oper} {rest : List Oper} {o : Oper} {a : Act} {w : World} {Q : Exit → Act → World → Prop} (hgd : o.guard = none) (s x : Operand) (hop : o.op = Op.call { callee := Callee.builtin Builtin.append, args := #[s, x], argTypes := #[30, 30] })
    (base : Nat) (v : Value) (l : List (List UInt8)) (g0 : Nat) (t : List UInt8) (hs : a.eval s = v) (hx : a.eval x = .slice (some ⟨g0, 0, none⟩) 1 1) (hown : OwnS w base v l) (hc : w.cell? ⟨g0, 0, none⟩ = some (vs t))
    (hlen : l.length + 1 ≤ 1000000) (hb : base ≤ w.heap.size) (h : ∀ v' w', OwnS w' base v' (l ++ [t]) → w.grownBy w' v.ownBlock → wpList Tryd.prog ops Q rest (a.put o.dst v') w') : wpList Tryd.prog ops Q (o :: rest) a w := by
  obtain ⟨i0, hi0, hz0, hz1, hz2⟩ := info_parts info_str
  refine wpList_append_own_at _ hgd s x _ hop base 9 i0 (.string ⟨#[]⟩) 1 16 Tryd.underlying30 hi0 hz0 hz1 hz2 rfl (by decide) v l.length (l.map vs) hs hown ⟨g0, 0, none⟩ 1 1 [vs t] hx rfl (fun j u hu => ?_) (by simp [Value.oneCell']) (by unfold maxLen; omega) (by omega) hb ?_
  · cases j with
    | succ j => simp at hu
    | zero => simp at hu; subst hu; rw [Addr.add_lit]; exact hc
  · intro v' w' ho hg _ _
    exact h v' w' (by unfold OwnS; simpa using ho) hg
end Go.Proofs.YtpagkakplmeokaaDoor
