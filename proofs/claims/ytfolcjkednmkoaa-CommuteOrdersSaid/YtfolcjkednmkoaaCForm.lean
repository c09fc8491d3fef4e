/- commute.formed and commute.Commute answer formedF and commF. -/
import Derived.Test.YtfolcjkednmkoaaCComm
import Derived.Test.YtfolcjkednmkoaaAll
set_option linter.unusedVariables false
set_option linter.unusedSimpArgs false
namespace Go.Proofs.Ytfolcjkednmkoaa
open Go.RowKit
theorem apply_nil (p : Patch) : ((applyF [] p).2 != 1) = formedF p := by
  have hw : walkB ([] : List Item) = true := rfl
  unfold applyF
  cases hf : formedF p with
  | false => simp
  | true =>
    rw [if_neg (by rw [hw]; simp)]
    have hfi : findI ([] : List Item) p.id = -1 := rfl
    have hit : itemF ([] : List Item) p.id = noItem := rfl
    by_cases h1 : p.kind = 1
    · rw [if_pos h1]
      unfold insertF
      rw [hfi, if_neg (by omega)]
      split
      · rfl
      · rfl
    · rw [if_neg h1, hit, if_pos (.inl rfl)]; rfl
set_option maxRecDepth 20000 in
set_option maxHeartbeats 1000000 in
theorem formC (p : Patch) (hrd : p.Ready) (w : World) (m : Int) (hg : w.cell? ⟨0, 0, none⟩ = some (.int .i64 m)) : FormC p w := by
  intro W hb
  have hgW := step_cell hb hg
  have HA := fun W' (h : Below W.heap.size W W') => Lib.hid (apply_any [] none 0 p W' Sl.nil (by simp) (by simp) (by simp) hrd.item hrd.num m (step_cell h hgW) hrd.tlen)
  clear hg hgW hb
  go_enter Try.func22, Try.ntmps22
  go_wp2_with fail
  have hb1 := (Below.refl W.heap.size W).alloc (Nat.le_refl _) (.cells #[.int .i64 p.kind, vs p.id, vs p.par, vs p.aft, vs p.num, .int .i64 p.item.kind, vs p.item.id, vs p.item.par, vs p.item.num, vs p.item.no, vs p.item.so, .bool p.item.gone, .int .i64 p.lang, vs p.fr, vs p.to] 28)
  refine (HA _ hb1).out.mono ?_
  rintro e w1 ⟨v, rfl, hres, hb2⟩
  obtain ⟨A', c', rfl, -⟩ := hres
  have HB := Lib.hid (hb1.trans (hb2.mono hb1.size))
  clear hb1 hb2
  go_wp2_with fail
  go_ret
  exact ⟨ret_bool (apply_nil p), HB.out.alloc HB.out.size _⟩
theorem comm_any (a b : Patch) (ra : a.Ready) (rb : b.Ready) (w : World) (m : Int) (hg : w.cell? ⟨0, 0, none⟩ = some (.int .i64 m)) :
    Calls Try.prog 10 #[a.agg, b.agg] w fun e w' => e = .returned (.bool (commF a b)) ∧ Below w.heap.size w w' :=
  comm_mid a b w (formC a ra w m hg) (formC b rb w m hg)
end Go.Proofs.Ytfolcjkednmkoaa
