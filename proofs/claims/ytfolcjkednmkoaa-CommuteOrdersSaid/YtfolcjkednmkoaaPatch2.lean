/- patch.change: size, exists; patch.once. -/
import Derived.Test.YtfolcjkednmkoaaPatch
import Derived.Deep.RegionHeld3
import Derived.Test.YtfolcjkednmkoaaGrew
set_option linter.unusedVariables false
set_option linter.unusedSimpArgs false
namespace Go.Proofs.Ytfolcjkednmkoaa
open Go.RowKit
theorem walkF_le (l : List Item) : ∀ seen opn, (walkF l seen opn).1.length ≤ l.length := by
  induction l with
  | nil => intro seen opn; simp [walkF]
  | cons x r ih =>
    intro seen opn
    rw [walkF]
    split
    · simp
    · split
      · simp
      · simpa using ih _ _
theorem walkL_le (l : List Item) : (walkL l).length ≤ l.length := walkF_le l _ _
set_option maxRecDepth 20000 in
set_option maxHeartbeats 1000000 in
theorem size_any (l : List Item) (A : Option Addr) (c : Nat) (p : Patch) (ix : Int) (id : Str) (w : World) (hr : RdI w A l) (hl : l.length ≤ 1000000) (hsh : ∀ x ∈ l, x.Short) :
    Calls Try.prog 57 #[chg A l.length c p ix, vs id] w fun e w' => e = .returned (.int .i64 (1 + ((belowL l id).length : Int))) ∧ Below w.heap.size w w' := by
  have HSH := Lib.hid hsh; clear hsh
  have HR := Lib.hid hr; clear hr
  have hbl : (belowL l id).length ≤ 1000000 := by
    unfold belowL
    split
    · refine Nat.le_trans (belowF_len _ _) ?_
      have : (walkL l).length ≤ l.length := walkL_le l
      omega
    · simp
  go_enter Try.func57, Try.ntmps57
  go_wp2_with fail
  refine (below_any l A c id _ (HR.out.below ((Below.refl _ _).alloc (Nat.le_refl _) _)) hl HSH.out).mono ?_
  rintro e w1 ⟨O, cc, rfl, _, _, hb1⟩
  have HB := Lib.hid hb1; clear hb1
  go_wp2_with fail
  go_ret
  exact ⟨rfl, ((Below.refl _ _).alloc (Nat.le_refl _) _).trans (HB.out.mono (by simp))⟩
def onceAt (t f : Str) : Int := Lib.index t f
def onceIs (t f : Str) : Bool := decide (0 ≤ onceAt t f) && (Lib.lastIndex t f == onceAt t f)
set_option maxRecDepth 20000 in
set_option maxHeartbeats 1000000 in
theorem once_any (t f : Str) (m : Int) (w : World) (ht : t.length ≤ 1000000) (hg : w.cell? ⟨0, 0, none⟩ = some (.int .i64 m)) :
    Calls Try.prog 54 #[vs t, vs f] w fun e w' => e = .returned (.tuple #[.int .i64 (onceAt t f), .bool (onceIs t f)]) ∧ w' = w := by
  have h1 := Try.strings_Index ⟨t.toArray⟩ ⟨f.toArray⟩ m w (by simp [ByteArray.size]; omega) hg
  have h2 := Try.strings_LastIndex ⟨t.toArray⟩ ⟨f.toArray⟩ (by simp [ByteArray.size]; omega) w
  simp only [] at h1 h2
  have H1 := Lib.hid h1; clear h1
  have H2 := Lib.hid h2; clear h2
  cases hi : decide (0 ≤ Lib.index t f)
  all_goals
    go_enter Try.func54, Try.ntmps54
    go_wp2_with (first
      | (go_at_call 72; refine H1.out.mono ?_; rintro e w1 ⟨rfl, rfl⟩)
      | (go_at_call 73; refine H2.out.mono ?_; rintro e w1 ⟨rfl, rfl⟩))
    go_ret2
    exact ⟨by unfold onceAt onceIs onceAt; rw [hi]; first | rfl | simp, rfl⟩
/- the world's parts that exists reads -/
def patCells (p : Patch) : Array Value := #[.int .i64 p.kind, vs p.id, vs p.par, vs p.aft, vs p.num, .int .i64 p.item.kind, vs p.item.id, vs p.item.par, vs p.item.num, vs p.item.no, vs p.item.so, .bool p.item.gone, .int .i64 p.lang, vs p.fr, vs p.to]
def existsF (l : List Item) (par aft : Str) : Bool :=
  (par == [] || (itemF l par).kind == 1) && (aft == [] || ((itemF l aft).kind != 0 && (itemF l aft).par == par))
@[go_sem] theorem run_field_item_kind (a b c d e f g : Value) (W : World) : (Instr.field 26 (.agg #[a, b, c, d, e, f, g]) 0).run Try.prog W = .ok a W := by kernel_rfl
@[go_sem] theorem run_field_item_par (a b c d e f g : Value) (W : World) : (Instr.field 26 (.agg #[a, b, c, d, e, f, g]) 2).run Try.prog W = .ok c W := by kernel_rfl
theorem item_lit (l : List Item) (A : Option Addr) (c : Nat) (p : Patch) (ix : Int) (id : Str) (w : World) (hr : RdI w A l) (hl : l.length ≤ 1000000) :
    Calls Try.prog 43 #[chg A l.length c p ix, vs id] w fun e w' => e = .returned (.agg #[.int .i64 (itemF l id).kind, vs (itemF l id).id, vs (itemF l id).par, vs (itemF l id).num, vs (itemF l id).no, vs (itemF l id).so, .bool (itemF l id).gone]) ∧ Below w.heap.size w w' :=
  item_any l A c p ix id w hr hl
end Go.Proofs.Ytfolcjkednmkoaa
