/-
  New trees; comparisons of small values; numbers stay numbers.
-/
import Derived.Test.YtclcdhcafbldaaaUg
import Derived.ChangeKeysEq
import Derived.Laws.StructEq
namespace Go.Proofs.Ytclcdhcafbldaaa
open Go Go.Sx Go.RowKit Go.Fl

theorem frombits (n : Int) (w : World) : Sem.run Try.prog (callFunc 7 #[Value.int .u64 n]) w = .ok (.value (.float .f64 n.toNat)) w := by kernel_rfl
theorem eqb (x y : Operand) (a b : Bool) (w : World) : Sem.run Try.prog (eqRun .eql 4 x y (.bool a) (.bool b)) w = .ok (.bool (a == b)) w := by
  cases a <;> cases b <;> kernel_rfl
theorem neb (x y : Operand) (a b : Bool) (w : World) : Sem.run Try.prog (eqRun .neq 4 x y (.bool a) (.bool b)) w = .ok (.bool (a != b)) w := by
  cases a <;> cases b <;> kernel_rfl
theorem eg51 (op : BinOp) (x y : Operand) (a b c d : Int) (w : World) : Sem.run Try.prog (eqGuard op 51 x y (.agg #[.int .i64 a, .int .i64 b]) (.agg #[.int .i64 c, .int .i64 d])) w = .ok () w := by
  cases op <;> kernel_rfl
set_option maxRecDepth 20000 in
theorem ein51 (a b c d : Int) (w : World) : (Op.equalIn 10000 51 (.agg #[.int .i64 a, .int .i64 b]) (.agg #[.int .i64 c, .int .i64 d])).run Try.prog w = .ok (a == c && b == d) w := by
  have u3 := Try.underlying3
  have a3 := Try.isAgg3
  have z3 := Try.sizeOf3
  rw [show (10000 : Nat) = 9999 + 1 from rfl, Op.equalIn]
  simp only [Sem.run_bind, run_underlying Try.underlying51, Result.andThen_ok]
  simp only [Std.Legacy.Range.forIn_eq_forIn_range', Std.Legacy.Range.size, Nat.sub_zero, Nat.add_sub_cancel, Nat.div_one, List.range'_succ, List.range'_zero, List.forIn_cons, List.forIn_nil]
  go_simp
  by_cases h1 : a = c <;> by_cases h2 : b = d <;> simp [h1, h2]
theorem eq51 (x y : Operand) (a b c d : Int) (w : World) : Sem.run Try.prog (eqRun .eql 51 x y (.agg #[.int .i64 a, .int .i64 b]) (.agg #[.int .i64 c, .int .i64 d])) w = .ok (.bool (a == c && b == d)) w := by
  unfold eqRun
  rw [Sem.run_bind, eg51, Result.andThen_ok]
  show Sem.run Try.prog (do pure (Value.bool (← Op.equalIn 10000 51 _ _))) w = _
  rw [Sem.run_bind, ein51]; rfl
theorem ne51 (x y : Operand) (a b c d : Int) (w : World) : Sem.run Try.prog (eqRun .neq 51 x y (.agg #[.int .i64 a, .int .i64 b]) (.agg #[.int .i64 c, .int .i64 d])) w = .ok (.bool (!(a == c && b == d))) w := by
  unfold eqRun
  rw [Sem.run_bind, eg51, Result.andThen_ok]
  show Sem.run Try.prog (do pure (Value.bool (!(← Op.equalIn 10000 51 _ _)))) w = _
  rw [Sem.run_bind, ein51]; rfl
end Go.Proofs.Ytclcdhcafbldaaa
