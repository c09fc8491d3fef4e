/- code.isName, code.proper and what they call: which items are valid apart from their place. -/
import Derived.Test.YtkdcenbommhnoaaBase
set_option linter.unusedVariables false
set_option linter.unusedSimpArgs false
namespace Go.Proofs.Ytkdcenbommhnoaa
open Go.RowKit
def isDigitB (b : UInt8) : Bool := 48 ≤ b.toNat && b.toNat ≤ 57
def isLowB (b : UInt8) : Bool := 97 ≤ b.toNat && b.toNat ≤ 122
def isUpB (b : UInt8) : Bool := 65 ≤ b.toNat && b.toNat ≤ 90
def numB (b : UInt8) : Bool := isDigitB b || isLowB b
def runeBad (c : Int) : Bool := !((decide (48 ≤ c) && decide (c ≤ 57)) || (decide (97 ≤ c) && decide (c ≤ 122)))
set_option maxHeartbeats 400000 in
theorem proper1_any (c : Int) (w : World) :
    Calls Try.prog 75 #[.int .i32 c] w fun e w' => e = .returned (.bool (runeBad c)) ∧ w' = w := by
  by_cases h1 : 48 ≤ c <;> by_cases h2 : c ≤ 57 <;> by_cases h3 : 97 ≤ c <;> by_cases h4 : c ≤ 122
  all_goals
    go_enter Try.func75, Try.ntmps75
    go_wp2
    try go_ret
    try exact ⟨ret_bool (by simp [runeBad, h1, h2, h3, h4]), rfl⟩
theorem rune_of_byte (b : UInt8) (h : b.toNat < 128) : runeBad (b.toNat : Int) = !numB b := by
  unfold runeBad numB isDigitB isLowB
  congr 1
  rw [Bool.eq_iff_iff]; simp; omega
theorem rune_high (c : Int) (h : 128 ≤ c) : runeBad c = true := by
  unfold runeBad
  simp; omega
set_option maxRecDepth 20000 in
set_option maxHeartbeats 400000 in
theorem indexFunc_str (s : Str) (g : Nat) (p : Int → Bool) (q : UInt8 → Bool) (w : World) (hs : s.length ≤ maxLen)
    (hcf : ∀ us W, (callFunc g us).run Try.prog W = .ok (.enter g us) W)
    (hg : ∀ c W, Calls Try.prog g #[.int .i32 c] W fun e w'' => e = .returned (.bool (p c)) ∧ w'' = W)
    (hq : ∀ b : UInt8, b.toNat < 128 → p b.toNat = q b) (hhi : ∀ c, 128 ≤ c → p c = true) (hqh : ∀ b : UInt8, 128 ≤ b.toNat → q b = true) :
    Calls Try.prog 95 #[vs s, .func (.func g) #[] #[], .bool true] w fun e w' => e = .returned (.int .i64 (idx (s.findIdx? q))) ∧ Below w.heap.size w w' := by
  have HG := Lib.hid hg; clear hg
  have HQ := Lib.hid hq; clear hq
  have HH := Lib.hid hhi; clear hhi
  have HQH := Lib.hid hqh; clear hqh
  unfold maxLen at hs
  go_enter Try.func95, Try.ntmps95
  go_wp2
  go_loopw [7] (fun _ wr => ∃ k : Nat, k ≤ s.length ∧ wr = w.iter ⟨s.toArray⟩ k ∧ ∀ j x, s[j]? = some x → j < k → q x = false) (fun _ wr => s.length - wr.iterPos w.heap.size)
  case atStart => exact ⟨0, Nat.zero_le _, rfl, fun _ _ _ h => absurd h (by omega)⟩
  case round =>
    obtain ⟨k, hk, rfl, hno⟩ := hrel
    have Hno := Lib.hid hno; clear hno
    by_cases hlt : k < s.length
    · have hsz : k < (⟨s.toArray⟩ : ByteArray).size := by simpa [ByteArray.size] using hlt
      obtain ⟨x, hx⟩ := get_of_lt hlt
      have hxx : (⟨s.toArray⟩ : ByteArray)[k] = x := by
        obtain ⟨_, h⟩ := List.getElem?_eq_some_iff.1 hx
        exact h
      by_cases ha : x.toNat < 128
      · have hn := fun ty => run_next_ascii (P := Try.prog) w ⟨s.toArray⟩ k ty hsz (by rw [hxx]; exact ha)
        rw [hxx] at hn
        have Hx := Lib.hid hx; clear hx
        have hxx := Lib.hid hxx; clear hxx
        have hpq := HQ.out x ha
        cases hqx : q x with
        | true =>
          have Hpx : Hid (p x.toNat = true) := by rw [← hqx]; exact hpq
          have Hqx := Lib.hid hqx; clear hqx hpq
          go_wp2_with fail
          refine (HG.out _ _).mono ?_
          rintro e w1 ⟨rfl, rfl⟩
          rw [Hpx.out]
          go_wp2_with fail
          go_ret
          exact ⟨by rw [findIdx_some Hx.out Hqx.out Hno.out]; rfl, (Below.refl _ _).alloc (Nat.le_refl _) _⟩
        | false =>
          have Hpx : Hid (p x.toNat = false) := by rw [← hqx]; exact hpq
          have Hqx := Lib.hid hqx; clear hqx hpq
          go_wp2_with fail
          refine (HG.out _ _).mono ?_
          rintro e w1 ⟨rfl, rfl⟩
          rw [Hpx.out]
          go_wp2_with fail
          go_roundw
          case rel => exact ⟨k + 1, by omega, rfl, below_succ Hx.out Hqx.out Hno.out⟩
          case measure => simp; omega
      · have hn := fun ty => run_next_any (P := Try.prog) w ⟨s.toArray⟩ k ty hsz
        have hd := decode_high ⟨s.toArray⟩ k hsz (by rw [hxx]; omega)
        have Hpx : Hid (p (Utf8.decode ⟨s.toArray⟩ k).1 = true) := HH.out _ (by omega)
        have Hqx := Lib.hid (HQH.out x (by omega))
        have Hx := Lib.hid hx; clear hx
        have hxx := Lib.hid hxx; clear hxx
        generalize (Utf8.decode ⟨s.toArray⟩ k).1 = r at *
        generalize (Utf8.decode ⟨s.toArray⟩ k).2 = m at *
        go_wp2_with fail
        refine (HG.out _ _).mono ?_
        rintro e w1 ⟨rfl, rfl⟩
        rw [Hpx.out]
        go_wp2_with fail
        go_ret
        exact ⟨by rw [findIdx_some Hx.out Hqx.out Hno.out]; rfl, (Below.refl _ _).alloc (Nat.le_refl _) _⟩
    · have hkk : k = s.length := by omega
      subst hkk
      have hn := fun ty => run_next_end (P := Try.prog) w ⟨s.toArray⟩ s.length ty (by simp [ByteArray.size])
      go_wp2_with fail
      go_ret
      exact ⟨by rw [findIdx_none Hno.out]; rfl, (Below.refl _ _).alloc (Nat.le_refl _) _⟩
theorem idx_nonneg (o : Option Nat) : decide (0 ≤ idx o) = o.isSome := by
  cases o <;> simp [idx]
set_option maxHeartbeats 400000 in
theorem containsFunc_num (s : Str) (w : World) (hs : s.length ≤ maxLen) :
    Calls Try.prog 74 #[vs s, .func (.func 75) #[] #[]] w fun e w' => e = .returned (.bool (s.any fun b => !numB b)) ∧ Below w.heap.size w w' := by
  have h1 := indexFunc_str s 75 runeBad (fun b => !numB b) w hs (enters Try.func75 (by kernel_rfl) rfl) proper1_any rune_of_byte rune_high
    (fun b hb => by simp [numB, isDigitB, isLowB]; omega)
  have H1 := Lib.hid h1; clear h1
  go_enter Try.func74, Try.ntmps74
  go_wp2_with (first | (go_at_call 95; refine H1.out.mono ?_; rintro e w1 ⟨rfl, hb1⟩) | go_in)
  go_ret
  refine ⟨ret_bool ?_, hb1⟩
  rw [idx_nonneg, List.findIdx?_isSome]
end Go.Proofs.Ytkdcenbommhnoaa
