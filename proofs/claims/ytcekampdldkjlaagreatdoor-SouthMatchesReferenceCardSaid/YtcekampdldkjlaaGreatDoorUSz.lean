/- The reference's trees are small; a token's number is at most seven digits. -/
import Derived.Test.YtcekampdldkjlaaGreatDoorUDefs
import Derived.Test.YtcekampdldkjlaaGreatDoorNPlain
import Derived.Test.YtcekampdldkjlaaGreatDoorSSize
set_option linter.unusedVariables false
set_option linter.unusedSimpArgs false
namespace Go.Proofs.YtcekampdldkjlaaGreatDoor
theorem lexOne_n {c : UInt8} {r : List UInt8} {k n v : Nat} (h : lexOne c r = .ok (k, n, v)) : v ≤ 9999999 := by
  unfold lexOne at h
  split at h
  · split at h
    · cases h
    · injection h with h; injection h with h1 h; injection h with h2 h3; omega
  · split at h
    · rename_i hd
      split at h
      · cases h
      · rename_i hl
        injection h with h; injection h with h1 h; injection h with h2 h3
        have hb := valN_bound (c :: r.takeWhile digitB) 0 0 (fun x hx => by rcases List.mem_cons.1 hx with rfl | hx; exact hd; exact twd_all x hx) (by decide)
        have hl2 : (c :: r.takeWhile digitB).length ≤ 7 := by simp; omega
        have h7 : 10 ^ (0 + (c :: r.takeWhile digitB).length) ≤ 10 ^ 7 := Nat.pow_le_pow_right (by decide) (by omega)
        have : valN (c :: r.takeWhile digitB) < 10 ^ 7 := Nat.lt_of_lt_of_le hb h7
        omega
    · split at h
      · injection h with h; injection h with h1 h; injection h with h2 h3; omega
      · split at h
        · split at h <;> (injection h with h; injection h with h1 h; injection h with h2 h3; omega)
        · split at h
          · split at h
            · injection h with h; injection h with h1 h; injection h with h2 h3; omega
            · cases h
          · cases h
theorem tok_n {l : List UInt8} {ts : List Tok} (h : lexF l = .ok ts) : ∀ t ∈ ts, t.n ≤ 9999999 := by
  intro t ht
  have hl := lexF_ok h
  have hm : t ∈ (sc l 0).1 := by rw [hl.1]; exact ht
  obtain ⟨c, r, h0, h1, h2, h3⟩ := sc_ok l 0 t hm
  exact lexOne_n h3
theorem combineA_size (st : Stack) (op k : Nat) (a : Int) (s : Rs) : total (combineA st op k a s).1 ≤ total st + 1 := by
  unfold combineA
  split
  · simp
  · split
    · simp
    · have h := total_app (st.take (st.length - k)) (st.drop (st.length - k))
      rw [List.take_append_drop] at h
      simp only [total_app, total, Tree.size, sizes_map]
      omega
theorem pushU_size (st : Stack) (t : Tree) (d : Nat) (h : t.size = 1) : total (st ++ [(t, d)]) ≤ total st + 1 := by
  simp only [total_app, total, h]; omega
theorem someItemA_size (starts : Bool) (ts : List Tok) (fin : Nat) (st : Stack) (s : Rs) : total (someItemA starts ts fin st s).1 ≤ total st + 1 := by
  have hl : ∀ (op : Nat) (nm : List UInt8) (cm n : Nat), (Tree.mk op nm cm n []).size = 1 := fun _ _ _ _ => by simp [Tree.size, sizes]
  unfold someItemA
  split
  · unfold sitemA
    repeat' (first | exact pushU_size st _ _ (hl _ _ _ _) | exact combineA_size _ _ _ _ _ | split)
  · unfold itemA
    repeat' (first | exact pushU_size st _ _ (hl _ _ _ _) | exact combineA_size _ _ _ _ _ | split)
theorem loopA_size (starts : Bool) (ts : List Tok) (fin : Nat) : ∀ (f : Nat) (st : Stack) (s : Rs), total (loopA starts ts fin f st s).1 ≤ total st + f
  | 0, st, s => by simp [loopA]
  | f + 1, st, s => by
    unfold loopA
    split
    · exact Nat.le_add_right _ _
    · split
      · exact Nat.le_add_right _ _
      · split
        · exact Nat.le_add_right _ _
        · have h1 := loopA_size starts ts fin f (someItemA starts ts fin st s).1 (someItemA starts ts fin st s).2
          have h2 := someItemA_size starts ts fin st s
          omega
theorem ite_size {c : Prop} [Decidable c] {y z : (Tree × Nat) × Rs} {N : Nat} (h1 : y.1.1.size ≤ N) (h2 : z.1.1.size ≤ N) : (if c then y else z).1.1.size ≤ N := by
  split
  · exact h1
  · exact h2
theorem topA_size (ts : List Tok) (fin : Nat) (x : Stack × Rs × Bool) : (topA ts fin x).1.1.size ≤ total x.1 + 1 := by
  have hz : zeroE.1.size = 1 := by simp [zeroE, Tree.size, sizes]
  have hz2 : zeroE.1.size ≤ total x.1 + 1 := by omega
  refine ite_size hz2 (ite_size hz2 ?_)
  cases x.1 with
  | nil => exact Nat.le_of_eq (by rw [List.headD_nil, hz]; rfl)
  | cons a r =>
    show a.1.size ≤ total (a :: r) + 1
    rw [total]; omega
theorem bracesA_size (starts : Bool) (ts : List Tok) (fin : Nat) (s : Rs) : (bracesA starts ts fin s).1.1.size ≤ 900000 := by
  unfold bracesA
  have h1 := topA_size ts fin (loopA starts ts fin 201 [] (mustA ts fin s [123]))
  have h2 := loopA_size starts ts fin 201 [] (mustA ts fin s [123])
  have h3 : total ([] : Stack) = 0 := rfl
  omega
end Go.Proofs.YtcekampdldkjlaaGreatDoor
