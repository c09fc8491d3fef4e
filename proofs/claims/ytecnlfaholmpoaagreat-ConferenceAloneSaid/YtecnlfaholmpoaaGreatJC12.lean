/- The comparisons: cmp.Compare, cmp.Or at two numbers, properStamp. Clauses, in plain words and in cells. -/
import Derived.Test.YtecnlfaholmpoaaGreatJC1
import Derived.Test.YtecnlfaholmpoaaGreatJC6
import Derived.Test.YtecnlfaholmpoaaGreatJC7
set_option linter.unusedVariables false
set_option linter.unusedSimpArgs false
namespace Go.Proofs.YtecnlfaholmpoaaGreat
open Go.RowKit
def cmpI (a b : Int) : Int := if a < b then -1 else if b < a then 1 else 0
theorem isNaN_any (a : Int) (w : World) : Calls Tryz.prog 81 #[.int .i64 a] w fun e w' => e = .returned (.bool false) ∧ w' = w := by
 go_enter Tryz.func81, Tryz.ntmps81
 go_wp2_with fail
 go_ret
 exact ⟨by simp, rfl⟩
theorem compare_any (a b : Int) (w : World) : Calls Tryz.prog 42 #[.int .i64 a, .int .i64 b] w fun e w' => e = .returned (.int .i64 (cmpI a b)) ∧ w' = w := by
 unfold cmpI
 by_cases h1 : a < b
 · rw [if_pos h1]
   go_enter Tryz.func42, Tryz.ntmps42
   go_wp2_with (go_at_call 81; refine (isNaN_any _ _).mono ?_; rintro e w' ⟨rfl, rfl⟩)
   go_ret
   exact ⟨rfl, rfl⟩
 · rw [if_neg h1]
   by_cases h2 : b < a
   · rw [if_pos h2]
     go_enter Tryz.func42, Tryz.ntmps42
     go_wp2_with (go_at_call 81; refine (isNaN_any _ _).mono ?_; rintro e w' ⟨rfl, rfl⟩)
     go_ret
     exact ⟨rfl, rfl⟩
   · rw [if_neg h2]
     go_enter Tryz.func42, Tryz.ntmps42
     go_wp2_with (go_at_call 81; refine (isNaN_any _ _).mono ?_; rintro e w' ⟨rfl, rfl⟩)
     go_ret
     exact ⟨rfl, rfl⟩
theorem or_any (a b : Int) (g : Nat) (w : World) (h0 : w.cell? ⟨g, 0, none⟩ = some (.int .i64 a)) (h1 : w.cell? ⟨g, 1, none⟩ = some (.int .i64 b)) :
 Calls Tryz.prog 41 #[.slice (some ⟨g, 0, none⟩) 2 2] w fun e w' => e = .returned (.int .i64 (if a = 0 then b else a)) ∧ w' = w := by
 by_cases ha : a = 0
 · rw [if_pos ha]
   subst ha
   go_enter Tryz.func41, Tryz.ntmps41
   go_wp2_with fail
   refine wp_loop_rounds 3 ?_
   rw [rounds_succ]
   go_wp2_with fail
   by_cases hb : b = 0
   · subst hb
     rw [rounds_succ]
     go_wp2_with fail
     rw [rounds_succ]
     go_wp2_with fail
     go_ret
     exact ⟨rfl, rfl⟩
   · rw [rounds_succ]
     go_wp2_with fail
     go_ret
     exact ⟨rfl, rfl⟩
 · rw [if_neg ha]
   go_enter Tryz.func41, Tryz.ntmps41
   go_wp2_with fail
   refine wp_loop_rounds 3 ?_
   rw [rounds_succ]
   go_wp2_with fail
   go_ret
   exact ⟨rfl, rfl⟩
def properI (s c : Int) : Bool := decide (0 ≤ s) && (decide (s < 200) && (decide (1 ≤ c) && decide (c ≤ 1000000)))
theorem properStamp_any (s c : Int) (w : World) : Calls Tryz.prog 110 #[.agg #[.int .i64 s, .int .i64 c]] w fun e w' => e = .returned (.bool (properI s c)) ∧ Below w.heap.size w w' := by
 by_cases h1 : 0 ≤ s
 · by_cases h2 : s < 200
   · by_cases h3 : 1 ≤ c
     · by_cases h4 : c ≤ 1000000
       · go_enter Tryz.func110, Tryz.ntmps110
         go_wp2_with fail
         go_ret
         exact ⟨by first | (simp [properI, *]; done) | (simp [properI]; omega), (Below.refl _ _).alloc (Nat.le_refl _) _⟩
       · go_enter Tryz.func110, Tryz.ntmps110
         go_wp2_with fail
         go_ret
         exact ⟨by first | (simp [properI, *]; done) | (simp [properI]; omega), (Below.refl _ _).alloc (Nat.le_refl _) _⟩
     · go_enter Tryz.func110, Tryz.ntmps110
       go_wp2_with fail
       go_ret
       exact ⟨by first | (simp [properI, *]; done) | (simp [properI]; omega), (Below.refl _ _).alloc (Nat.le_refl _) _⟩
   · go_enter Tryz.func110, Tryz.ntmps110
     go_wp2_with fail
     go_ret
     exact ⟨by first | (simp [properI, *]; done) | (simp [properI]; omega), (Below.refl _ _).alloc (Nat.le_refl _) _⟩
 · go_enter Tryz.func110, Tryz.ntmps110
   go_wp2_with fail
   go_ret
   exact ⟨by first | (simp [properI, *]; done) | (simp [properI]; omega), (Below.refl _ _).alloc (Nat.le_refl _) _⟩
end Go.Proofs.YtecnlfaholmpoaaGreat
namespace Go.Proofs.YtecnlfaholmpoaaGreat
structure Stamp where
 seat : Int
 count : Int
deriving DecidableEq, Inhabited
abbrev noStamp : Stamp := ⟨0, 0⟩
structure Clause where
 id : Stamp
 after : Stamp
 patch : Patch
 gone : Bool
def properS (s : Stamp) : Bool := decide (0 ≤ s.seat) && (decide (s.seat < 200) && (decide (1 ≤ s.count) && decide (s.count ≤ 1000000)))
def Clause.proper (c : Clause) : Bool := properS c.id && (decide (c.after = noStamp) || (properS c.after && decide (c.after.count < c.id.count)))
abbrev Clause.cells (c : Clause) : List Value := [.int .i64 c.id.seat, .int .i64 c.id.count, .int .i64 c.after.seat, .int .i64 c.after.count, .int .i64 c.patch.kind, vs c.patch.id, vs c.patch.par, vs c.patch.aft, vs c.patch.num, .int .i64 c.patch.item.kind, vs c.patch.item.id, vs c.patch.item.par, vs c.patch.item.num, vs c.patch.item.no, vs c.patch.item.so, .bool c.patch.item.gone, .int .i64 c.patch.lang, vs c.patch.fr, vs c.patch.to, .bool c.gone]
abbrev claCs (c : Clause) : Array Value := #[.int .i64 c.id.seat, .int .i64 c.id.count, .int .i64 c.after.seat, .int .i64 c.after.count, .int .i64 c.patch.kind, vs c.patch.id, vs c.patch.par, vs c.patch.aft, vs c.patch.num, .int .i64 c.patch.item.kind, vs c.patch.item.id, vs c.patch.item.par, vs c.patch.item.num, vs c.patch.item.no, vs c.patch.item.so, .bool c.patch.item.gone, .int .i64 c.patch.lang, vs c.patch.fr, vs c.patch.to, .bool c.gone]
abbrev Clause.agg (c : Clause) : Value := .agg #[.int .i64 c.id.seat, .int .i64 c.id.count, .int .i64 c.after.seat, .int .i64 c.after.count, .int .i64 c.patch.kind, vs c.patch.id, vs c.patch.par, vs c.patch.aft, vs c.patch.num, .int .i64 c.patch.item.kind, vs c.patch.item.id, vs c.patch.item.par, vs c.patch.item.num, vs c.patch.item.no, vs c.patch.item.so, .bool c.patch.item.gone, .int .i64 c.patch.lang, vs c.patch.fr, vs c.patch.to, .bool c.gone]
abbrev Stamp.agg (s : Stamp) : Value := .agg #[.int .i64 s.seat, .int .i64 s.count]
theorem properS_eq (s : Stamp) : properS s = properI s.seat s.count := rfl
theorem stamp_ext {a b : Stamp} : a = b ↔ a.seat = b.seat ∧ a.count = b.count := by
 cases a; cases b; simp
end Go.Proofs.YtecnlfaholmpoaaGreat
