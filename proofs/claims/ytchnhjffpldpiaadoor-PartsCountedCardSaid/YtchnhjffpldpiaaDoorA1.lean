/- Small functions of package parts, walked. -/
import Derived.Test.YtchnhjffpldpiaaDoorProg
import Derived.Test.YtchnhjffpldpiaaDoorBase
namespace Go.Proofs.YtchnhjffpldpiaaDoor
open Go.RowKit

theorem agg3 (w : World) : (isAgg 3).run Tryd.prog w = .ok false w := by kernel_rfl
theorem gd_spot : (Tryd.prog).eqGuardType (Tryd.prog).depth 113 = false := by kernel_rfl
theorem gd_pair : (Tryd.prog).eqGuardType (Tryd.prog).depth 30 = false := by kernel_rfl
set_option maxRecDepth 100000 in
theorem eqi_spot (a b c d : Int) (w : World) : (Op.equalIn 10000 113 (.agg #[.int .i64 a, .int .i64 b]) (.agg #[.int .i64 c, .int .i64 d])).run Tryd.prog w = .ok (a == c && b == d) w :=
  run_eqlIn_arr2 113 3 .i64 _ Tryd.underlying113 Tryd.underlying3 rfl rfl agg3 a b c d w
set_option maxRecDepth 100000 in
theorem eqi_pair (a b c d : Int) (w : World) : (Op.equalIn 10000 30 (.agg #[.int .i64 a, .int .i64 b]) (.agg #[.int .i64 c, .int .i64 d])).run Tryd.prog w = .ok (a == c && b == d) w :=
  run_eqlIn_arr2 30 3 .i64 _ Tryd.underlying30 Tryd.underlying3 rfl rfl agg3 a b c d w

set_option maxHeartbeats 400000 in
theorem within_any (n lo hi : Int) (w : World) :
    Calls Tryd.prog 66 #[.int .i64 n, .int .i64 lo, .int .i64 hi] w fun e w' => e = .returned (.bool (inB n lo hi)) ∧ w = w' := by
  go_enter Tryd.func66, Tryd.ntmps66
  go_wp2
  all_goals
    go_ret
    refine ⟨?_, rfl⟩
    exact ret_bool (by rw [Bool.eq_iff_iff]; simp [inB, *]; try omega)
end Go.Proofs.YtchnhjffpldpiaaDoor
