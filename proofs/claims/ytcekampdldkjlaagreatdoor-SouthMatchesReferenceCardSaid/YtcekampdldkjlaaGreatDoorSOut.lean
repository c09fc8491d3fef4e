/- Parse and Lex with their three results by name; the plain law of the first error. -/
import Derived.Test.YtcekampdldkjlaaGreatDoorSHead
set_option linter.unusedVariables false
set_option linter.unusedSimpArgs false
namespace Go.Proofs.YtcekampdldkjlaaGreatDoor
open Go.RowKit
def zeroP : Prov := ⟨[], 0, 0, [], 0, .mk 0 [] 0 0 [], [], .mk 0 [] 0 0 [], .mk 0 [] 0 0 [], .mk 0 [] 0 0 []⟩
theorem parseF_pr {l : List UInt8} {ts : List Tok} (h : lexF l = .ok ts) : parseF l = match pr ts with | .error (e, s) => .error (e, (posAt l.length s : Nat)) | .ok (p, _) => .ok p := by
  unfold parseF
  simp only [h]
  rcases pr ts with ⟨e, s⟩ | ⟨p, s⟩ <;> rfl
def outP (l : List UInt8) : Prov := match parseF l with | .ok p => p | .error _ => zeroP
def outE (l : List UInt8) : Nat := match parseF l with | .ok _ => 0 | .error (e, _) => e
def outA (l : List UInt8) : Int := match parseF l with | .ok _ => 0 | .error (_, a) => a
def lexT (l : List UInt8) : List Tok := match lexF l with | .ok ts => ts | .error _ => []
def lexE (l : List UInt8) : Nat := match lexF l with | .ok _ => 0 | .error (e, _) => e
def lexA (l : List UInt8) : Int := match lexF l with | .ok _ => 0 | .error (_, a) => a
abbrev zeroL : List Value := [.string ⟨#[]⟩, .int .i64 0, .int .i64 0, .string ⟨#[]⟩, .int .i64 0, .int .i64 0, .string ⟨#[]⟩, .int .i64 0, .int .i64 0, .slice none 0 0, .slice none 0 0, .int .i64 0, .string ⟨#[]⟩, .int .i64 0, .slice none 0 0, .int .i64 0, .string ⟨#[]⟩, .int .i64 0, .slice none 0 0, .int .i64 0, .string ⟨#[]⟩, .int .i64 0, .slice none 0 0]
theorem zero_rd (n : Nat) (w : World) : RdProv n w zeroL zeroP :=
  ⟨tcs true 0 [] 0 0 (.slice none 0 0), none, 0, tcs false 0 [] 0 0 (.slice none 0 0), tcs false 0 [] 0 0 (.slice none 0 0), tcs false 0 [] 0 0 (.slice none 0 0), rfl, Nat.le_refl _, RdTree.leaf _ _ _ _ _ _, ⟨Sl.nil, fun b o e => by cases e⟩, RdTree.leaf _ _ _ _ _ _, RdTree.leaf _ _ _ _ _ _, RdTree.leaf _ _ _ _ _ _⟩
theorem parse_out (l : List UInt8) (w : World) (m : Int) (hm : w.cell? ⟨2, 0, none⟩ = some (.int .i64 m)) :
    Calls Tryz.prog 5 #[vs l] w fun e w' => Below w.heap.size w w' ∧ ∃ cs : List Value, e = .returned (.tuple #[.agg cs.toArray, .int .i64 (outE l), .int .i64 (outA l)]) ∧ RdProv w.heap.size w' cs (outP l) := by
  refine (parse_any l w m hm).mono ?_
  rintro e w' ⟨hb, hp⟩
  refine ⟨hb, ?_⟩
  unfold outE outA outP
  split at hp
  · rename_i p hp1
    obtain ⟨cs, rfl, hr⟩ := hp
    simp only [hp1]
    exact ⟨cs, rfl, hr⟩
  · rename_i er a hp1
    obtain rfl := hp
    simp only [hp1]
    exact ⟨zeroL, rfl, zero_rd _ _⟩
theorem lex_out (l : List UInt8) (w : World) :
    Calls Tryz.prog 8 #[vs l] w fun e w' => Below w.heap.size w w' ∧ ∃ A c, e = .returned (.tuple #[.slice A (lexT l).length c, .int .i64 (lexE l), .int .i64 (lexA l)]) ∧ RdT w' A (lexT l) ∧ (lexT l).length ≤ c ∧ c ≤ 9223372036854775807 := by
  refine (lex_any l w).mono ?_
  rintro e w' ⟨hb, hp⟩
  refine ⟨hb, ?_⟩
  unfold lexE lexA lexT
  split at hp
  · rename_i ts hp1
    obtain ⟨A, c, rfl, hr, -, h1, h2⟩ := hp
    simp only [hp1]
    exact ⟨A, c, rfl, hr, h1, h2⟩
  · rename_i er a hp1
    obtain rfl := hp
    simp only [hp1]
    exact ⟨none, 0, rfl, fun h => absurd rfl h, Nat.le_refl _, by omega⟩
theorem lexE_zero {l : List UInt8} (h : lexE l = 0) : lexF l = .ok (lexT l) := by
  unfold lexE at h
  unfold lexT
  split at h
  · rename_i ts hp1; simp only [hp1]
  · rename_i e a hp1; exact absurd h (lexF_err_ne hp1)
theorem lexT_len (l : List UInt8) : (lexT l).length ≤ 5000 := by
  unfold lexT
  split
  · rename_i ts h; exact (lexF_ok h).2.1
  · exact Nat.zero_le _
theorem out_ok {l : List UInt8} {ts : List Tok} {p : Prov} {s : List Tok} (h : lexF l = .ok ts) (hp : pr ts = .ok (p, s)) : outP l = p ∧ outE l = 0 ∧ outA l = 0 := by
  have := parseF_pr h
  rw [hp] at this
  simp only [outP, outE, outA, this, and_self]
theorem out_err {l : List UInt8} {ts s : List Tok} {e : Nat} (h : lexF l = .ok ts) (hp : pr ts = .error (e, s)) : outP l = zeroP ∧ outE l = e ∧ outA l = posAt l.length s := by
  have := parseF_pr h
  rw [hp] at this
  simp only [outP, outE, outA, this, and_self]
theorem out_no {l : List UInt8} (h : lexE l ≠ 0) : outE l = lexE l ∧ outP l = zeroP ∧ outA l = lexA l := by
  unfold outE outP outA lexE lexA parseF at *
  split at h
  · exact absurd rfl h
  · rename_i e a h1
    simp only [h1, and_self]
theorem out_zero {l : List UInt8} (h : outE l ≠ 0) : outP l = zeroP := by
  unfold outE outP at *
  split at h
  · exact absurd rfl h
  · rename_i e a h1
    simp only [h1]
theorem pr_err_ne {ts s : List Tok} {e : Nat} (h : pr ts = .error (e, s)) : e ≠ 0 ∧ (e = 6 ↔ s = []) := by
  rcases Det.pr.err _ _ _ h with ⟨rfl, rfl⟩ | ⟨u, t, v, rfl, -, h1, h2, -, -⟩
  · simp
  · exact ⟨h1, by simp [h2]⟩
theorem out_end {l : List UInt8} (h0 : lexE l = 0) (h6 : outE l = 6) : outA l = l.length := by
  have hlx := lexE_zero h0
  rcases hp : pr (lexT l) with ⟨e, s⟩ | ⟨p, s⟩
  · obtain ⟨a1, a2, a3⟩ := out_err hlx hp
    have := (pr_err_ne hp).2.1 (by omega)
    subst this
    exact a3
  · have := (out_ok hlx hp).2.1; omega
/- the first error -/
theorem first_err {l o : List UInt8} (h0 : lexE l = 0) (h5 : outE l ≠ 0) (h6 : outE l ≠ 6) : ∃ u t v, lexT l = u ++ t :: v ∧ outA l = t.pos ∧ (∀ x ∈ u, x.pos < t.pos) ∧ (∀ x ∈ v, t.pos < x.pos) ∧ t.pos + t.text.length ≤ l.length ∧
    (outE (l.take t.pos) = 0 ∨ outE (l.take t.pos) = 6 ∧ outA (l.take t.pos) = t.pos) ∧
    (t.text ≠ [97, 108, 108] → t.text ≠ [97, 110, 121] → lexE (l.take (t.pos + t.text.length) ++ 10 :: o) = 0 → outE (l.take (t.pos + t.text.length) ++ 10 :: o) = outE l ∧ outA (l.take (t.pos + t.text.length) ++ 10 :: o) = t.pos) := by
  have hlx := lexE_zero h0
  obtain ⟨hsc, hlen, hll⟩ := lexF_ok hlx
  rcases hp : pr (lexT l) with ⟨e, s⟩ | ⟨p, s⟩
  case ok => have := (out_ok hlx hp).2.1; omega
  obtain ⟨a1, a2, a3⟩ := out_err hlx hp
  rcases Det.pr.err _ _ _ hp with ⟨-, rfl⟩ | ⟨u, t, v, rfl, hts, -, -, hu, hw⟩
  · omega
  have hpl := sc_placed l 0
  rw [hsc, hts] at hpl
  have hone := hpl.one
  obtain ⟨-, c1, -, c2, c3, -⟩ := sc_cut l 0 u t v (by rw [hsc]; exact hts)
  have hlast := hpl.mem t (by simp)
  rw [hts] at hlen
  simp at hlen
  simp only [Nat.sub_zero] at c1 c2 c3
  refine ⟨u, t, v, hts, a3, hone.1, hone.2, by omega, ?_, ?_⟩
  · have hlu : lexF (l.take t.pos) = .ok u := lexF_mk c1 (by omega) (by simp; omega)
    rcases hu with hu | ⟨p, hu⟩
    · refine .inr ⟨(out_err hlu hu).2.1, ?_⟩
      rw [(out_err hlu hu).2.2]
      show ((l.take t.pos).length : Int) = _
      have := hlast.2.2
      simp; omega
    · exact .inl (out_ok hlu hu).2.1
  · intro hall hany h0'
    have hx := lexE_zero h0'
    obtain ⟨k1, k2, -⟩ := lexF_ok hx
    have hj := sc_join (l.take (t.pos + t.text.length)) o 0
    rw [c2] at hj
    simp only [] at hj
    rw [hj] at k1
    have hh : ∃ w, lexT (l.take (t.pos + t.text.length) ++ 10 :: o) = u ++ t :: w := ⟨_, (Prod.ext_iff.1 k1).1.symm.trans (List.append_assoc _ _ _)⟩
    obtain ⟨w, hw2⟩ := hh
    have := out_err hx (by rw [hw2]; exact hw (fun hg => hg.2.elim hall hany) w)
    exact ⟨this.2.1.trans a2.symm, this.2.2⟩
end Go.Proofs.YtcekampdldkjlaaGreatDoor
