/-
  The comparisons of fractions, tallies and standings as the model makes them.
-/
import Derived.Test.YtfpmbjobieeidaaGreatRows
import Derived.Laws.StructEq
import Derived.Shelf.SlicesE.Kit
import Derived.WalkKit
namespace Go.Proofs.YtfpmbjobieeidaaGreat
open Go.RowKit

section
variable (w : World)
theorem gd_ratio (op : BinOp) (x y : Operand) (u v : Array Value) : (eqGuard op 45 x y (.agg u) (.agg v)).run Tryz.prog w = .ok () w := run_eqGuard_agg w op 45 x y u v (by kernel_rfl)
theorem gd_stn (op : BinOp) (x y : Operand) (u v : Array Value) : (eqGuard op 64 x y (.agg u) (.agg v)).run Tryz.prog w = .ok () w := run_eqGuard_agg w op 64 x y u v (by kernel_rfl)
theorem gd_tally (op : BinOp) (x y : Operand) (u v : Array Value) : (eqGuard op 35 x y (.agg u) (.agg v)).run Tryz.prog w = .ok () w := run_eqGuard_agg w op 35 x y u v (by kernel_rfl)
theorem eqIn_ratio (k : Nat) (a b c d : Int) : (Op.equalIn (k + 2) 45 (.agg #[.int .i64 a, .int .i64 b]) (.agg #[.int .i64 c, .int .i64 d])).run Tryz.prog w = .ok (a == c && b == d) w := by
  have u3 := Tryz.underlying2
  have a3 := Tryz.isAgg2
  have z3 := Tryz.sizeOf2
  have hS : Tryz.prog.underlying 45 = some (.struct (Tryz.prog.fieldsOf 45)) := by kernel_rfl
  have hp : Tryz.prog.stoodInHeld 45 = false := by kernel_rfl
  rw [show k + 2 = (k + 1) + 1 from rfl, run_equalIn_struct w (k + 1) 45 _ _ hS hp]
  simp only [Program.fieldsOf, Tryz.underlying45]
  go_simp
  by_cases h1 : a = c <;> by_cases h2 : b = d <;> simp [h1, h2]
theorem eq_ratio (a b c d : Int) : (binOp .eql 45 (.agg #[.int .i64 a, .int .i64 b]) (.agg #[.int .i64 c, .int .i64 d])).run Tryz.prog w = .ok (.bool (a == c && b == d)) w := by
  rw [run_eql_struct, show (10000 : Nat) = 9998 + 2 from rfl, eqIn_ratio]; rfl
theorem neq_ratio (a b c d : Int) : (binOp .neq 45 (.agg #[.int .i64 a, .int .i64 b]) (.agg #[.int .i64 c, .int .i64 d])).run Tryz.prog w = .ok (.bool (!(a == c && b == d))) w := by
  rw [run_neq_struct, show (10000 : Nat) = 9998 + 2 from rfl, eqIn_ratio]; rfl
theorem eqIn_tally (k : Nat) (a b c d a' b' c' d' : Int) : (Op.equalIn (k + 2) 35 (.agg #[.int .i64 a, .int .i64 b, .int .i64 c, .int .i64 d]) (.agg #[.int .i64 a', .int .i64 b', .int .i64 c', .int .i64 d'])).run Tryz.prog w = .ok (a == a' && (b == b' && (c == c' && d == d'))) w := by
  have u3 := Tryz.underlying3
  have a3 := Tryz.isAgg3
  have z3 := Tryz.sizeOf3
  have hS : Tryz.prog.underlying 35 = some (.struct (Tryz.prog.fieldsOf 35)) := by kernel_rfl
  have hp : Tryz.prog.stoodInHeld 35 = false := by kernel_rfl
  rw [show k + 2 = (k + 1) + 1 from rfl, run_equalIn_struct w (k + 1) 35 _ _ hS hp]
  simp only [Program.fieldsOf, Tryz.underlying35]
  go_simp
  by_cases h1 : a = a' <;> by_cases h2 : b = b' <;> by_cases h3 : c = c' <;> by_cases h4 : d = d' <;> simp [h1, h2, h3, h4]
theorem neq_tally (a b c d a' b' c' d' : Int) : (binOp .neq 35 (.agg #[.int .i64 a, .int .i64 b, .int .i64 c, .int .i64 d]) (.agg #[.int .i64 a', .int .i64 b', .int .i64 c', .int .i64 d'])).run Tryz.prog w = .ok (.bool (!(a == a' && (b == b' && (c == c' && d == d'))))) w := by
  rw [run_neq_struct, show (10000 : Nat) = 9998 + 2 from rfl, eqIn_tally]; rfl
theorem eqIn_stn (k : Nat) (p a b q r p' a' b' q' r' : Int) : (Op.equalIn (k + 4) 64 (.agg #[.int .i64 p, .int .i64 a, .int .i64 b, .int .i64 q, .int .i64 r]) (.agg #[.int .i64 p', .int .i64 a', .int .i64 b', .int .i64 q', .int .i64 r'])).run Tryz.prog w = .ok (p == p' && ((a == a' && b == b') && (q == q' && r == r'))) w := by
  have u3 := Tryz.underlying3
  have a3 := Tryz.isAgg3
  have z3 := Tryz.sizeOf3
  have a4 := Tryz.isAgg45
  have z4 := Tryz.sizeOf45
  have hS : Tryz.prog.underlying 64 = some (.struct (Tryz.prog.fieldsOf 64)) := by kernel_rfl
  have hp : Tryz.prog.stoodInHeld 64 = false := by kernel_rfl
  have hR := fun w => eqIn_ratio w (k + 1) a b a' b'
  rw [show k + 4 = (k + 3) + 1 from rfl, run_equalIn_struct w (k + 3) 64 _ _ hS hp]
  simp only [Program.fieldsOf, Tryz.underlying64]
  go_simp
  by_cases h1 : p = p' <;> by_cases h2 : a = a' <;> by_cases h3 : b = b' <;> by_cases h4 : q = q' <;> by_cases h5 : r = r' <;> simp [h1, h2, h3, h4, h5]
theorem eq_stn (p a b q r p' a' b' q' r' : Int) : (binOp .eql 64 (.agg #[.int .i64 p, .int .i64 a, .int .i64 b, .int .i64 q, .int .i64 r]) (.agg #[.int .i64 p', .int .i64 a', .int .i64 b', .int .i64 q', .int .i64 r'])).run Tryz.prog w = .ok (.bool (p == p' && ((a == a' && b == b') && (q == q' && r == r')))) w := by
  rw [run_eql_struct, show (10000 : Nat) = 9996 + 4 from rfl, eqIn_stn]; rfl
theorem neq_stn (p a b q r p' a' b' q' r' : Int) : (binOp .neq 64 (.agg #[.int .i64 p, .int .i64 a, .int .i64 b, .int .i64 q, .int .i64 r]) (.agg #[.int .i64 p', .int .i64 a', .int .i64 b', .int .i64 q', .int .i64 r'])).run Tryz.prog w = .ok (.bool (!(p == p' && ((a == a' && b == b') && (q == q' && r == r'))))) w := by
  rw [run_neq_struct, show (10000 : Nat) = 9996 + 4 from rfl, eqIn_stn]; rfl
end
end Go.Proofs.YtfpmbjobieeidaaGreat
