/- A failure; the words of the language; one word of several. -/
import Derived.Test.YtpagkakplmeokaaDoorNNext
import Derived.Test.YtpagkakplmeokaaDoorNKeys
import Derived.Test.YtpagkakplmeokaaDoorShelf
import Derived.BigQuiet
import Derived.Deep.QuietTactic
set_option linter.unusedVariables false
set_option linter.unusedSimpArgs false
namespace Go.Proofs.YtpagkakplmeokaaDoor
open Go.RowKit
@[go_sem] theorem run_field_tok_at (a b c d : Value) (W : World) : (Instr.field 40 (.agg #[a, b, c, d]) 3).run Tryd.prog W = .ok d W := by kernel_rfl
set_option maxRecDepth 20000 in
set_option maxHeartbeats 400000 in
theorem fail_any (p fin : Nat) (l : List Tok) (w : World) (hp : PS w p fin l) :
    Calls Tryd.prog 46 #[.pointer (some ⟨p, 0, none⟩)] w fun e w' => e = stopE (failC l) (posAt fin l) ∧ Below w.heap.size w w' := by
  cases l with
  | nil =>
    obtain ⟨A, c, hh, -⟩ := hp.is
    have c0 := cell_of_blk (o := 0) hh rfl
    have c1 := cell_of_blk (o := 1) hh rfl
    have hlt := lt_of_heap' hh
    clear hh hp
    go_enter Tryd.func46, Tryd.ntmps46
    go_wp2
    exact ⟨rfl, rfl, Below.refl _ _⟩
  | cons t r =>
    have HP := Lib.hid hp
    obtain ⟨A, c, hh, -⟩ := hp.is
    have c0 := cell_of_blk (o := 0) hh rfl
    have hlt := lt_of_heap' hh
    have hz : (((r.length : Nat) : Int) + 1 == 0) = false := by simp; omega
    simp only [List.length_cons] at c0
    clear hh hp
    go_enter Tryd.func46, Tryd.ntmps46
    go_wp2_with (go_at_call 53; refine (next_cons p fin t r _ HP.out).mono ?_; rintro e w1 ⟨rfl, hb1⟩)
    exact ⟨rfl, rfl, hb1⟩
/- a name is a key word if it stands among them, between blanks -/
theorem keys_bytes (s : List UInt8) : ((⟨#[32]⟩ : ByteArray) ++ ⟨s.toArray⟩ ++ ⟨#[32]⟩).data.toList = 32 :: (s ++ [32]) := by
  simp [ByteArray.data_append]
set_option maxRecDepth 20000 in
theorem contains_key (B : ByteArray) (s : List UInt8) (w : World) (hB : B.data.toList = keysT keyWords) (hs : ∀ c ∈ s, c ≠ 32) (hm : ∃ m, w.cell? ⟨2, 0, none⟩ = some (.int .i64 m)) :
    Calls Tryd.prog 71 #[.string B, .string ((⟨#[32]⟩ : ByteArray) ++ ⟨s.toArray⟩ ++ ⟨#[32]⟩)] w fun e w' => e = .returned (.bool (keyF s)) ∧ w = w' := by
  obtain ⟨m, hm⟩ := hm
  have hsz : B.size < 4294967281 := by
    have h1 : B.data.toList.length ≤ 1000 := by rw [hB]; decide
    have h2 : B.size = B.data.toList.length := (Array.length_toList).symm
    omega
  refine (Tryd.strings_Contains B _ m w hsz hm).mono ?_
  rintro e w' ⟨rfl, rfl⟩
  rw [hB, keys_bytes, key_contains s hs]
  exact ⟨rfl, rfl⟩
set_option maxRecDepth 20000 in
set_option maxHeartbeats 400000 in
theorem key_any (s : List UInt8) (w : World) (hl : s.length ≤ 1000) (hs : ∀ c ∈ s, c ≠ 32) (hm : ∃ m, w.cell? ⟨2, 0, none⟩ = some (.int .i64 m)) :
    Calls Tryd.prog 54 #[vs s] w fun e w' => e = .returned (.bool (keyF s)) ∧ w = w' := by
  have HM := Lib.hid hm
  have HS := Lib.hid hs
  clear hs hm
  go_enter Tryd.func54, Tryd.ntmps54
  go_wp2_with fail
  refine (contains_key _ s _ ?hb HS.out HM.out).mono ?_
  case hb => rfl
  rintro e w1 ⟨rfl, rfl⟩
  go_wp2_with fail
  go_ret
  exact ⟨rfl, rfl⟩
end Go.Proofs.YtpagkakplmeokaaDoor
