/- The next token; a failure at it. -/
import Derived.Test.YtpagkakplmeokaaDoorNMem
set_option linter.unusedVariables false
set_option linter.unusedSimpArgs false
namespace Go.Proofs.YtpagkakplmeokaaDoor
open Go.RowKit
def headT (fin : Nat) : List Tok → Tok
  | [] => ⟨0, [], 0, fin⟩
  | t :: _ => t
abbrev stopE (e a : Nat) : Ending := .panicked [{ v := .iface 64 (.agg #[.int .i64 e, .int .i64 a]), recovered := false }]
set_option maxRecDepth 20000 in
set_option maxHeartbeats 400000 in
theorem next_nil (p fin : Nat) (w : World) (hp : PS w p fin []) :
    Calls Tryd.prog 53 #[.pointer (some ⟨p, 0, none⟩)] w fun e w' => e = .returned (.agg #[.int .i64 0, vs [], .int .i64 0, .int .i64 fin]) ∧ Below w.heap.size w w' := by
  obtain ⟨A, c, hh, -⟩ := hp.is
  have c0 := cell_of_blk (o := 0) hh rfl
  have c1 := cell_of_blk (o := 1) hh rfl
  have hlt := lt_of_heap' hh
  clear hh hp
  go_enter Tryd.func53, Tryd.ntmps53
  go_wp2
  refine bodyPost_ret (v := .agg #[.int .i64 0, vs [], .int .i64 0, .int .i64 fin]) (by simp [results, Tryd.results53, go_sem]) rfl ⟨rfl, ?_⟩
  exact (Below.refl _ _).alloc (Nat.le_refl _) _
set_option maxRecDepth 20000 in
set_option maxHeartbeats 400000 in
theorem next_cons (p fin : Nat) (t : Tok) (l : List Tok) (w : World) (hp : PS w p fin (t :: l)) :
    Calls Tryd.prog 53 #[.pointer (some ⟨p, 0, none⟩)] w fun e w' => e = .returned t.agg ∧ Below w.heap.size w w' := by
  obtain ⟨A, c, hh, hr, -⟩ := hp.is
  obtain ⟨b, o, rfl, hb, d0, d1, d2, d3, -⟩ := hr.head
  have c0 := cell_of_blk (o := 0) hh rfl
  have c1 := cell_of_blk (o := 1) hh rfl
  have hlt := lt_of_heap' hh
  have hz : (((l.length : Nat) : Int) + 1 == 0) = false := by simp; omega
  simp only [List.length_cons] at c0
  clear hh hp hr
  go_enter Tryd.func53, Tryd.ntmps53
  go_wp2
  refine bodyPost_ret (v := t.agg) (by simp [results, Tryd.results53, go_sem]) rfl ⟨rfl, ?_⟩
  exact (Below.refl _ _).alloc (Nat.le_refl _) _
end Go.Proofs.YtpagkakplmeokaaDoor
