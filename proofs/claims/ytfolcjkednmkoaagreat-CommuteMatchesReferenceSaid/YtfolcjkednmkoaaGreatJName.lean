/- code.isName, code.proper and what they call: which items are valid apart from their place. code.isName and code.proper. code.proper. -/
import Derived.Test.YtfolcjkednmkoaaGreatBase
set_option linter.unusedVariables false
set_option linter.unusedSimpArgs false
set_option maxRecDepth 20000
set_option maxHeartbeats 400000
namespace Go.Proofs.YtfolcjkednmkoaaGreat
open Go.RowKit
def isDigitB (b : UInt8) : Bool := 48 ≤ b.toNat && b.toNat ≤ 57
def isLowB (b : UInt8) : Bool := 97 ≤ b.toNat && b.toNat ≤ 122
def isUpB (b : UInt8) : Bool := 65 ≤ b.toNat && b.toNat ≤ 90
def numB (b : UInt8) : Bool := isDigitB b || isLowB b
def runeBad (c : Int) : Bool := !((decide (48 ≤ c) && decide (c ≤ 57)) || (decide (97 ≤ c) && decide (c ≤ 122)))
theorem proper1_any (c : Int) (w : World) :
 Calls Tryz.prog 84 #[.int .i32 c] w fun e w' => e = .returned (.bool (runeBad c)) ∧ w' = w := by
 by_cases h1 : 48 ≤ c <;> by_cases h2 : c ≤ 57 <;> by_cases h3 : 97 ≤ c <;> by_cases h4 : c ≤ 122
 all_goals
  go_enter Tryz.func84, Tryz.ntmps84
  go_wp2
  try go_ret
  try exact ⟨ret_bool (by simp [runeBad, h1, h2, h3, h4]), rfl⟩
theorem rune_of_byte (b : UInt8) (h : b.toNat < 128) : runeBad (b.toNat : Int) = !numB b := by
 unfold runeBad numB isDigitB isLowB
 congr 1
 rw [Bool.eq_iff_iff]; simp; omega
theorem rune_high (c : Int) (h : 128 ≤ c) : runeBad c = true := by
 unfold runeBad
 simp; omega
theorem indexFunc_str (s : Str) (g : Nat) (p : Int → Bool) (q : UInt8 → Bool) (w : World) (hs : s.length ≤ maxLen)
 (hcf : ∀ us W, (callFunc g us).run Tryz.prog W = .ok (.enter g us) W)
 (hg : ∀ c W, Calls Tryz.prog g #[.int .i32 c] W fun e w'' => e = .returned (.bool (p c)) ∧ w'' = W)
 (hq : ∀ b : UInt8, b.toNat < 128 → p b.toNat = q b) (hhi : ∀ c, 128 ≤ c → p c = true) (hqh : ∀ b : UInt8, 128 ≤ b.toNat → q b = true) :
 Calls Tryz.prog 115 #[vs s, .func (.func g) #[] #[], .bool true] w fun e w' => e = .returned (.int .i64 (idx (s.findIdx? q))) ∧ Below w.heap.size w w' := by
 have HG := Lib.hid hg; clear hg
 have HQ := Lib.hid hq; clear hq
 have HH := Lib.hid hhi; clear hhi
 have HQH := Lib.hid hqh; clear hqh
 unfold maxLen at hs
 go_enter Tryz.func115, Tryz.ntmps115
 go_wp2
 go_loopw [7] (fun _ wr => ∃ k : Nat, k ≤ s.length ∧ wr = w.iter ⟨s.toArray⟩ k ∧ ∀ j x, s[j]? = some x → j < k → q x = false) (fun _ wr => s.length - wr.iterPos w.heap.size)
 case atStart => exact ⟨0, Nat.zero_le _, rfl, fun _ _ _ h => absurd h (by omega)⟩
 case round =>
  obtain ⟨k, hk, rfl, hno⟩ := hrel
  have Hno := Lib.hid hno; clear hno
  by_cases hlt : k < s.length
  · have hsz : k < (⟨s.toArray⟩ : ByteArray).size := by simpa [ByteArray.size] using hlt
    obtain ⟨x, hx⟩ := get_of_lt hlt
    have hxx : (⟨s.toArray⟩ : ByteArray)[k] = x := by
     obtain ⟨_, h⟩ := List.getElem?_eq_some_iff.1 hx
     exact h
    by_cases ha : x.toNat < 128
    · have hn := fun ty => run_next_ascii (P := Tryz.prog) w ⟨s.toArray⟩ k ty hsz (by rw [hxx]; exact ha)
      rw [hxx] at hn
      have Hx := Lib.hid hx; clear hx
      have hxx := Lib.hid hxx; clear hxx
      have hpq := HQ.out x ha
      cases hqx : q x with
      | true =>
        have Hpx : Hid (p x.toNat = true) := by rw [← hqx]; exact hpq
        have Hqx := Lib.hid hqx; clear hqx hpq
        go_wp2_with fail
        refine (HG.out _ _).mono ?_
        rintro e w1 ⟨rfl, rfl⟩
        rw [Hpx.out]
        go_wp2_with fail
        go_ret
        exact ⟨by rw [findIdx_some Hx.out Hqx.out Hno.out]; rfl, (Below.refl _ _).alloc (Nat.le_refl _) _⟩
      | false =>
        have Hpx : Hid (p x.toNat = false) := by rw [← hqx]; exact hpq
        have Hqx := Lib.hid hqx; clear hqx hpq
        go_wp2_with fail
        refine (HG.out _ _).mono ?_
        rintro e w1 ⟨rfl, rfl⟩
        rw [Hpx.out]
        go_wp2_with fail
        go_roundw
        case rel => exact ⟨k + 1, by omega, rfl, below_succ Hx.out Hqx.out Hno.out⟩
        case measure => simp; omega
    · have hn := fun ty => run_next_any (P := Tryz.prog) w ⟨s.toArray⟩ k ty hsz
      have hd := decode_high ⟨s.toArray⟩ k hsz (by rw [hxx]; omega)
      have Hpx : Hid (p (Utf8.decode ⟨s.toArray⟩ k).1 = true) := HH.out _ (by omega)
      have Hqx := Lib.hid (HQH.out x (by omega))
      have Hx := Lib.hid hx; clear hx
      have hxx := Lib.hid hxx; clear hxx
      generalize (Utf8.decode ⟨s.toArray⟩ k).1 = r at *
      generalize (Utf8.decode ⟨s.toArray⟩ k).2 = m at *
      go_wp2_with fail
      refine (HG.out _ _).mono ?_
      rintro e w1 ⟨rfl, rfl⟩
      rw [Hpx.out]
      go_wp2_with fail
      go_ret
      exact ⟨by rw [findIdx_some Hx.out Hqx.out Hno.out]; rfl, (Below.refl _ _).alloc (Nat.le_refl _) _⟩
  · have hkk : k = s.length := by omega
    subst hkk
    have hn := fun ty => run_next_end (P := Tryz.prog) w ⟨s.toArray⟩ s.length ty (by simp [ByteArray.size])
    go_wp2_with fail
    go_ret
    exact ⟨by rw [findIdx_none Hno.out]; rfl, (Below.refl _ _).alloc (Nat.le_refl _) _⟩
theorem idx_nonneg (o : Option Nat) : decide (0 ≤ idx o) = o.isSome := by
 cases o <;> simp [idx]
theorem containsFunc_num (s : Str) (w : World) (hs : s.length ≤ maxLen) :
 Calls Tryz.prog 83 #[vs s, .func (.func 84) #[] #[]] w fun e w' => e = .returned (.bool (s.any fun b => !numB b)) ∧ Below w.heap.size w w' := by
 have h1 := indexFunc_str s 84 runeBad (fun b => !numB b) w hs (enters Tryz.func84 (by kernel_rfl) rfl) proper1_any rune_of_byte rune_high
  (fun b hb => by simp [numB, isDigitB, isLowB]; omega)
 have H1 := Lib.hid h1; clear h1
 go_enter Tryz.func83, Tryz.ntmps83
 go_wp2_with (first | (go_at_call 115; refine H1.out.mono ?_; rintro e w1 ⟨rfl, hb1⟩) | go_in)
 go_ret
 refine ⟨ret_bool ?_, hb1⟩
 rw [idx_nonneg, List.findIdx?_isSome]
end Go.Proofs.YtfolcjkednmkoaaGreat
set_option maxRecDepth 20000
set_option maxHeartbeats 1000000
namespace Go.Proofs.YtfolcjkednmkoaaGreat
open Go.RowKit
def letB (c : UInt8) : Bool := isLowB c || isUpB c
def digB (c : UInt8) : Bool := isDigitB c || c.toNat == 95
def nameOk (i : Nat) (c : UInt8) : Bool := letB c || (i != 0 && digB c)
def isNameB (s : Str) : Bool := (List.range s.length).all (fun i => nameOk i (s.getD i 0)) && s != [] && decide (s.length ≤ 24)
theorem isName_no {s : Str} {k : Nat} {x : UInt8} (hx : s[k]? = some x) (h : nameOk k x = false) : isNameB s = false := by
 obtain ⟨hk, rfl⟩ := List.getElem?_eq_some_iff.1 hx
 unfold isNameB
 have : (List.range s.length).all (fun i => nameOk i (s.getD i 0)) = false := by
  rw [List.all_eq_false]
  exact ⟨k, by simpa using hk, by simp [List.getD_eq_getElem?_getD, List.getElem?_eq_getElem hk, h]⟩
 rw [this]; simp
theorem isName_end {s : Str} (h : ∀ (j : Nat) y, s[j]? = some y → j < s.length → nameOk j y = true) : isNameB s = (s != [] && decide (s.length ≤ 24)) := by
 unfold isNameB
 have : (List.range s.length).all (fun i => nameOk i (s.getD i 0)) = true := by
  rw [List.all_eq_true]
  intro i hi
  have hi' : i < s.length := by simpa using hi
  have := h i s[i] (List.getElem?_eq_getElem hi') hi'
  simpa [List.getD_eq_getElem?_getD, List.getElem?_eq_getElem hi'] using this
 rw [this]; simp
theorem up_succ {α : Type} {l : List α} {p : Nat → α → Bool} {k : Nat} {x : α} (hx : l[k]? = some x) (hp : p k x = true) (hno : ∀ (j : Nat) y, l[j]? = some y → j < k → p j y = true) : ∀ (j : Nat) y, l[j]? = some y → j < k + 1 → p j y = true := by
 intro j y hy hj
 rcases Nat.lt_succ_iff_lt_or_eq.1 hj with h | rfl
 · exact hno j y hy h
 · rw [hx] at hy; cases hy; exact hp
theorem byte_classes (n : Nat) : ((97 ≤ n ∧ n ≤ 122) ∨ (65 ≤ n ∧ n ≤ 90)) ∨ ((48 ≤ n ∧ n ≤ 57) ∨ (95 ≤ n ∧ n ≤ 95)) ∨ (n ≤ 47 ∨ (58 ≤ n ∧ n ≤ 64) ∨ (91 ≤ n ∧ n ≤ 94) ∨ (96 ≤ n ∧ n ≤ 96) ∨ 123 ≤ n) := by omega
theorem nameOk_let {k : Nat} {x : UInt8} (h : (97 ≤ x.toNat ∧ x.toNat ≤ 122) ∨ (65 ≤ x.toNat ∧ x.toNat ≤ 90)) : nameOk k x = true := by
 simp [nameOk, letB, isLowB, isUpB]; omega
theorem nameOk_dig {k : Nat} {x : UInt8} (h : (48 ≤ x.toNat ∧ x.toNat ≤ 57) ∨ (95 ≤ x.toNat ∧ x.toNat ≤ 95)) : nameOk k x = (k != 0) := by
 have h1 : letB x = false := by simp [letB, isLowB, isUpB]; omega
 have h2 : digB x = true := by simp [digB, isDigitB]; omega
 simp [nameOk, h1, h2]
theorem nameOk_other {k : Nat} {x : UInt8} (h : x.toNat ≤ 47 ∨ (58 ≤ x.toNat ∧ x.toNat ≤ 64) ∨ (91 ≤ x.toNat ∧ x.toNat ≤ 94) ∨ (96 ≤ x.toNat ∧ x.toNat ≤ 96) ∨ 123 ≤ x.toNat) : nameOk k x = false := by
 have h1 : letB x = false := by simp [letB, isLowB, isUpB]; omega
 have h2 : digB x = false := by simp [digB, isDigitB]; omega
 simp [nameOk, h1, h2]
theorem isName_any (s : Str) (w : World) (hs : s.length ≤ maxLen) :
 Calls Tryz.prog 85 #[vs s] w fun e w' => e = .returned (.bool (isNameB s)) ∧ w' = w := by
 unfold maxLen at hs
 go_enter Tryz.func85, Tryz.ntmps85
 go_wp2
 go_loop [9] (fun i => ∃ k : Nat, k ≤ s.length ∧ i = .int .i64 k ∧ ∀ j x, s[j]? = some x → j < k → nameOk j x = true) (fun i => s.length - (intOf i).toNat)
 case atStart => exact ⟨0, Nat.zero_le _, rfl, fun _ _ _ h => absurd h (by omega)⟩
 case round =>
  obtain ⟨k, hk, rfl, hno⟩ := hrel
  have Hno := Lib.hid hno; clear hno
  by_cases hlt : k < s.length
  · obtain ⟨x, hx⟩ := get_of_lt hlt
    have hsz : k < (⟨s.toArray⟩ : ByteArray).size := by simpa [ByteArray.size] using hlt
    have hxx : (⟨s.toArray⟩ : ByteArray)[k] = x := by
     obtain ⟨_, h⟩ := List.getElem?_eq_some_iff.1 hx
     exact h
    have Hx := Lib.hid hx; clear hx
    have hbd : x.toNat < 256 := x.toNat_lt
    rcases byte_classes x.toNat with h | h | h
    · have Hn := Lib.hid (nameOk_let (k := k) h)
      have he : ((x.toNat : Int) == 95) = false := by simp; omega
      rcases h with ⟨ha, hb⟩ | ⟨ha, hb⟩
      all_goals
       go_wp2_with fail
       exact ⟨⟨k + 1, by omega, by go_num, up_succ Hx.out Hn.out Hno.out⟩, by simp [intOf]; omega⟩
    · have Hn := Lib.hid (nameOk_dig (k := k) h)
      cases hk0 : ((k : Int) == 0) with
      | true =>
        have Hk := Lib.hid (show nameOk k x = false by rw [Hn.out]; simpa using hk0)
        rcases h with ⟨ha, hb⟩ | ⟨ha, hb⟩
        · go_wp2_with fail
          go_ret
          exact ⟨ret_bool (isName_no Hx.out Hk.out).symm, rfl⟩
        · have he : ((x.toNat : Int) == 95) = true := by simp; omega
          have d1 : decide ((x.toNat : Int) ≤ 90) = false := by simp; omega
          have d2 : decide ((x.toNat : Int) ≤ 57) = false := by simp; omega
          go_wp2_with fail
          go_ret
          exact ⟨ret_bool (isName_no Hx.out Hk.out).symm, rfl⟩
      | false =>
        have Hk := Lib.hid (show nameOk k x = true by rw [Hn.out]; simpa using hk0)
        rcases h with ⟨ha, hb⟩ | ⟨ha, hb⟩
        · go_wp2_with fail
          exact ⟨⟨k + 1, by omega, by go_num, up_succ Hx.out Hk.out Hno.out⟩, by simp [intOf]; omega⟩
        · have he : ((x.toNat : Int) == 95) = true := by simp; omega
          have d1 : decide ((x.toNat : Int) ≤ 90) = false := by simp; omega
          have d2 : decide ((x.toNat : Int) ≤ 57) = false := by simp; omega
          go_wp2_with fail
          exact ⟨⟨k + 1, by omega, by go_num, up_succ Hx.out Hk.out Hno.out⟩, by simp [intOf]; omega⟩
    · have Hn := Lib.hid (nameOk_other (k := k) h)
      have he : ((x.toNat : Int) == 95) = false := by simp; omega
      cases hk0 : ((k : Int) == 0)
      all_goals
       rcases h with ha | ⟨ha, hb⟩ | ⟨ha, hb⟩ | ⟨ha, hb⟩ | ha
       all_goals
        first
         | (have d1 : decide ((x.toNat : Int) ≤ 57) = false := by simp; omega
            first
             | (have d2 : decide ((x.toNat : Int) ≤ 90) = false := by simp; omega
                first
                 | (have d3 : decide ((x.toNat : Int) ≤ 122) = false := by simp; omega
                    go_wp2_with fail)
                 | go_wp2_with fail)
             | go_wp2_with fail)
         | go_wp2_with fail
        go_ret
        exact ⟨ret_bool (isName_no Hx.out Hn.out).symm, rfl⟩
  · have hkk : k = s.length := by omega
    subst hkk
    by_cases hz : s = []
    · subst hz
      go_wp2_with fail
      go_ret
      exact ⟨by rw [isName_end Hno.out]; rfl, rfl⟩
    · have hz' : s.isEmpty = false := by simpa using hz
      by_cases h24 : s.length ≤ 24
      · go_wp2_with fail
        go_ret
        exact ⟨ret_bool (by rw [isName_end Hno.out, show (s != []) = true by simpa using hz]; first | (simp [h24]; done) | (simp; omega)), rfl⟩
      · go_wp2_with fail
        go_ret
        exact ⟨ret_bool (by rw [isName_end Hno.out, show (s != []) = true by simpa using hz]; first | (simp [h24]; done) | (simp; omega)), rfl⟩
end Go.Proofs.YtfolcjkednmkoaaGreat
set_option maxRecDepth 20000
set_option maxHeartbeats 1000000
namespace Go.Proofs.YtfolcjkednmkoaaGreat
open Go.RowKit
def allNum (s : Str) : Bool := s.all numB
def numOk (s : Str) : Bool := decide ((s.length : Int) ≤ 8) && allNum s
def properB (x : Item) : Bool :=
 if x.kind = 1 then numOk x.num && isNameB x.id && x.no == [] && x.so == [] && !x.gone
 else if x.kind = 2 then numOk x.num && isNameB x.id && decide ((x.no.length : Int) ≤ 400) && decide ((x.so.length : Int) ≤ 400)
 else false
/- the lengths of an item's strings are those of strings -/
structure Item.Short (x : Item) : Prop where
 id : x.id.length ≤ maxLen
 par : x.par.length ≤ maxLen
 num : x.num.length ≤ maxLen
 no : x.no.length ≤ maxLen
 so : x.so.length ≤ maxLen
theorem any_not (l : Str) : (l.any fun b => !numB b) = !allNum l := by
 unfold allNum
 induction l <;> simp_all
theorem proper_any (x : Item) (w : World) (hs : x.Short) :
 Calls Tryz.prog 52 #[x.agg] w fun e w' => e = .returned (.bool (properB x)) ∧ Below w.heap.size w w' := by
 have H1 := fun W => Lib.hid (isName_any x.id W hs.id)
 have H2 := fun W => containsFunc_num x.num W hs.num
 simp only [any_not] at H2
 have H2 := fun W => Lib.hid (H2 W)
 obtain ⟨l1, l2, l3, l4, l5⟩ := hs
 unfold maxLen at l1 l2 l3 l4 l5
 cases hn : isNameB x.id <;> cases hm : allNum x.num
 all_goals
  go_enter Tryz.func52, Tryz.ntmps52
  go_wp2_with (first
   | (go_at_call 83; refine (H2 _).out.mono ?_; rintro e w1 ⟨rfl, hb1⟩; obtain ⟨hc, hf⟩ := bcell hb1)
   | (go_at_call 85; refine (H1 _).out.mono ?_; rintro e w1 ⟨rfl, rfl⟩))
  all_goals
   go_ret
   refine ⟨ret_bool ?_, ?_⟩
   · clear H1 H2
     simp_all [properB, numOk]
     try omega
   · first
       | exact (Below.refl _ _).alloc (Nat.le_refl _) _
       | exact ((Below.refl _ _).alloc (Nat.le_refl _) _).trans (hb1.mono (by simp))
end Go.Proofs.YtfolcjkednmkoaaGreat
