/- '==' on strokes, as the model runs it. -/
import Derived.Test.YtigemahbopligaaSignS
import Derived.DeepKeys4
namespace Go.Proofs.Ytigemahbopligaa
open Go.RowKit
theorem strokeEqIn (d : Nat) (a b a' b' : Int) (w : World) : (Op.equalIn (d + 2) 64 (.agg #[.int .i64 a, .int .i64 b]) (.agg #[.int .i64 a', .int .i64 b'])).run Try.prog w = .ok (eqD (a, b) (a', b')) w := by
  have hu := Try.underlying64
  have hu3 := Try.underlying3
  have hp : Try.prog.plainKey 3 = true := by kernel_rfl
  have hs : Try.prog.stoodInHeld 64 = false := by kernel_rfl
  have p0 : ∀ x y : Int, (part 3 #[.int .i64 x, .int .i64 y] 0).run Try.prog w = .ok (.int .i64 x) w := fun x y => run_part_plain w hp rfl
  have p1 : ∀ x y : Int, (part 3 #[.int .i64 x, .int .i64 y] 1).run Try.prog w = .ok (.int .i64 y) w := fun x y => run_part_plain w hp rfl
  have e3 : ∀ x y : Int, (Op.equalIn (d + 1) 3 (.int .i64 x) (.int .i64 y)).run Try.prog w = .ok (x == y) w := fun x y => by
    simp [Op.equalIn, run_underlying hu3]
  have hq : eqD (a, b) (a', b') = (a == a' && b == b') := rfl
  rw [hq, Op.equalIn]
  simp only [Sem.run_bind, run_underlying hu, Result.andThen_ok]
  by_cases h1 : a = a'
  · subst h1
    by_cases h2 : b = b'
    · subst h2
      simp [hs, p0, p1, e3]
    · simp [hs, p0, p1, e3, h2]
  · simp [hs, p0, e3, h1]
theorem strokeEql (a b a' b' : Int) (w : World) : (binOp .eql 64 (.agg #[.int .i64 a, .int .i64 b]) (.agg #[.int .i64 a', .int .i64 b'])).run Try.prog w = .ok (.bool (eqD (a, b) (a', b'))) w := by
  have h := strokeEqIn 9998 a b a' b' w
  have e : Op.equal 64 (.agg #[.int .i64 a, .int .i64 b]) (.agg #[.int .i64 a', .int .i64 b']) = Op.equalIn (9998 + 2) 64 (.agg #[.int .i64 a, .int .i64 b]) (.agg #[.int .i64 a', .int .i64 b']) := rfl
  simp only [binOp, e, Sem.run_bind, h, Result.andThen_ok, Sem.run_pure]
end Go.Proofs.Ytigemahbopligaa
