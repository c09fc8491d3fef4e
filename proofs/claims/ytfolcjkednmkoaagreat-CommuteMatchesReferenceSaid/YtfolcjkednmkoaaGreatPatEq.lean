/- Two patches compared: one law. -/
import Derived.Test.YtfolcjkednmkoaaGreatWords2
set_option linter.unusedVariables false
set_option linter.unusedSimpArgs false
set_option maxRecDepth 20000
namespace Go.Proofs.YtfolcjkednmkoaaGreat
open Go.RowKit
theorem ite_eql {α : Type} [BEq α] [LawfulBEq α] [DecidableEq α] (x y : α) (c : Bool) (W : World) : (if x = y then (Result.ok (Value.bool c) W : Result Value) else Result.ok (Value.bool false) W) = Result.ok (Value.bool (x == y && c)) W := by
 by_cases h : x = y
 · subst h; simp
 · rw [if_neg h]; simp [h]
def eqlPat (A B : Array Value) : Sem Value := binOp .eql 29 (.agg A) (.agg B)
@[go_sem] theorem run_eqlPat (a0 b0 : Int) (a1 b1 : Str) (a2 b2 : Str) (a3 b3 : Str) (a4 b4 : Str) (a5 b5 : Int) (a6 b6 : Str) (a7 b7 : Str) (a8 b8 : Str) (a9 b9 : Str) (a10 b10 : Str) (a11 b11 : Bool) (a12 b12 : Int) (a13 b13 : Str) (a14 b14 : Str) (W : World) : (eqlPat #[.int .i64 a0, vs a1, vs a2, vs a3, vs a4, .int .i64 a5, vs a6, vs a7, vs a8, vs a9, vs a10, .bool a11, .int .i64 a12, vs a13, vs a14] #[.int .i64 b0, vs b1, vs b2, vs b3, vs b4, .int .i64 b5, vs b6, vs b7, vs b8, vs b9, vs b10, .bool b11, .int .i64 b12, vs b13, vs b14]).run Tryz.prog W = .ok (.bool (a0 == b0 && (a1 == b1 && (a2 == b2 && (a3 == b3 && (a4 == b4 && (a5 == b5 && (a6 == b6 && (a7 == b7 && (a8 == b8 && (a9 == b9 && (a10 == b10 && (a11 == b11 && (a12 == b12 && (a13 == b13 && (a14 == b14)))))))))))))))) W := by
 unfold eqlPat
 simp [go_sem]
 simp only [ite_eql]
 simp only [Bool.and_true]

@[go_sem high] theorem fold_eqlPat (A B : Array Value) : binOp .eql 29 (.agg A) (.agg B) = eqlPat A B := rfl
end Go.Proofs.YtfolcjkednmkoaaGreat
