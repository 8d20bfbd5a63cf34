/-
  The comparisons of fractions, tallies and standings as the model makes them.
-/
import Derived.Test.YtfpmbjobieeidaaRows
import Derived.Laws.StructEq
import Derived.Shelf.SlicesE.Kit
import Derived.WalkKit
namespace Go.Proofs.Ytfpmbjobieeidaa
open Go.RowKit

section
variable (w : World)
theorem gd_ratio (op : BinOp) (x y : Operand) (u v : Array Value) : (eqGuard op 23 x y (.agg u) (.agg v)).run Try.prog w = .ok () w := run_eqGuard_agg w op 23 x y u v (by kernel_rfl)
theorem gd_stn (op : BinOp) (x y : Operand) (u v : Array Value) : (eqGuard op 57 x y (.agg u) (.agg v)).run Try.prog w = .ok () w := run_eqGuard_agg w op 57 x y u v (by kernel_rfl)
theorem gd_tally (op : BinOp) (x y : Operand) (u v : Array Value) : (eqGuard op 33 x y (.agg u) (.agg v)).run Try.prog w = .ok () w := run_eqGuard_agg w op 33 x y u v (by kernel_rfl)
theorem eqIn_ratio (k : Nat) (a b c d : Int) : (Op.equalIn (k + 2) 23 (.agg #[.int .i64 a, .int .i64 b]) (.agg #[.int .i64 c, .int .i64 d])).run Try.prog w = .ok (a == c && b == d) w := by
  have u3 := Try.underlying2
  have a3 := Try.isAgg2
  have z3 := Try.sizeOf2
  have hS : Try.prog.underlying 23 = some (.struct (Try.prog.fieldsOf 23)) := by kernel_rfl
  have hp : Try.prog.stoodInHeld 23 = false := by kernel_rfl
  rw [show k + 2 = (k + 1) + 1 from rfl, run_equalIn_struct w (k + 1) 23 _ _ hS hp]
  simp only [Program.fieldsOf, Try.underlying23]
  go_simp
  by_cases h1 : a = c <;> by_cases h2 : b = d <;> simp [h1, h2]
theorem eq_ratio (a b c d : Int) : (binOp .eql 23 (.agg #[.int .i64 a, .int .i64 b]) (.agg #[.int .i64 c, .int .i64 d])).run Try.prog w = .ok (.bool (a == c && b == d)) w := by
  rw [run_eql_struct, show (10000 : Nat) = 9998 + 2 from rfl, eqIn_ratio]; rfl
theorem neq_ratio (a b c d : Int) : (binOp .neq 23 (.agg #[.int .i64 a, .int .i64 b]) (.agg #[.int .i64 c, .int .i64 d])).run Try.prog w = .ok (.bool (!(a == c && b == d))) w := by
  rw [run_neq_struct, show (10000 : Nat) = 9998 + 2 from rfl, eqIn_ratio]; rfl
theorem eqIn_tally (k : Nat) (a b c d a' b' c' d' : Int) : (Op.equalIn (k + 2) 33 (.agg #[.int .i64 a, .int .i64 b, .int .i64 c, .int .i64 d]) (.agg #[.int .i64 a', .int .i64 b', .int .i64 c', .int .i64 d'])).run Try.prog w = .ok (a == a' && (b == b' && (c == c' && d == d'))) w := by
  have u3 := Try.underlying3
  have a3 := Try.isAgg3
  have z3 := Try.sizeOf3
  have hS : Try.prog.underlying 33 = some (.struct (Try.prog.fieldsOf 33)) := by kernel_rfl
  have hp : Try.prog.stoodInHeld 33 = false := by kernel_rfl
  rw [show k + 2 = (k + 1) + 1 from rfl, run_equalIn_struct w (k + 1) 33 _ _ hS hp]
  simp only [Program.fieldsOf, Try.underlying33]
  go_simp
  by_cases h1 : a = a' <;> by_cases h2 : b = b' <;> by_cases h3 : c = c' <;> by_cases h4 : d = d' <;> simp [h1, h2, h3, h4]
theorem neq_tally (a b c d a' b' c' d' : Int) : (binOp .neq 33 (.agg #[.int .i64 a, .int .i64 b, .int .i64 c, .int .i64 d]) (.agg #[.int .i64 a', .int .i64 b', .int .i64 c', .int .i64 d'])).run Try.prog w = .ok (.bool (!(a == a' && (b == b' && (c == c' && d == d'))))) w := by
  rw [run_neq_struct, show (10000 : Nat) = 9998 + 2 from rfl, eqIn_tally]; rfl
theorem eqIn_stn (k : Nat) (p a b q r p' a' b' q' r' : Int) : (Op.equalIn (k + 4) 57 (.agg #[.int .i64 p, .int .i64 a, .int .i64 b, .int .i64 q, .int .i64 r]) (.agg #[.int .i64 p', .int .i64 a', .int .i64 b', .int .i64 q', .int .i64 r'])).run Try.prog w = .ok (p == p' && ((a == a' && b == b') && (q == q' && r == r'))) w := by
  have u3 := Try.underlying3
  have a3 := Try.isAgg3
  have z3 := Try.sizeOf3
  have a4 := Try.isAgg23
  have z4 := Try.sizeOf23
  have hS : Try.prog.underlying 57 = some (.struct (Try.prog.fieldsOf 57)) := by kernel_rfl
  have hp : Try.prog.stoodInHeld 57 = false := by kernel_rfl
  have hR := fun w => eqIn_ratio w (k + 1) a b a' b'
  rw [show k + 4 = (k + 3) + 1 from rfl, run_equalIn_struct w (k + 3) 57 _ _ hS hp]
  simp only [Program.fieldsOf, Try.underlying57]
  go_simp
  by_cases h1 : p = p' <;> by_cases h2 : a = a' <;> by_cases h3 : b = b' <;> by_cases h4 : q = q' <;> by_cases h5 : r = r' <;> simp [h1, h2, h3, h4, h5]
theorem eq_stn (p a b q r p' a' b' q' r' : Int) : (binOp .eql 57 (.agg #[.int .i64 p, .int .i64 a, .int .i64 b, .int .i64 q, .int .i64 r]) (.agg #[.int .i64 p', .int .i64 a', .int .i64 b', .int .i64 q', .int .i64 r'])).run Try.prog w = .ok (.bool (p == p' && ((a == a' && b == b') && (q == q' && r == r')))) w := by
  rw [run_eql_struct, show (10000 : Nat) = 9996 + 4 from rfl, eqIn_stn]; rfl
theorem neq_stn (p a b q r p' a' b' q' r' : Int) : (binOp .neq 57 (.agg #[.int .i64 p, .int .i64 a, .int .i64 b, .int .i64 q, .int .i64 r]) (.agg #[.int .i64 p', .int .i64 a', .int .i64 b', .int .i64 q', .int .i64 r'])).run Try.prog w = .ok (.bool (!(p == p' && ((a == a' && b == b') && (q == q' && r == r'))))) w := by
  rw [run_neq_struct, show (10000 : Nat) = 9996 + 4 from rfl, eqIn_stn]; rfl
end
end Go.Proofs.Ytfpmbjobieeidaa
