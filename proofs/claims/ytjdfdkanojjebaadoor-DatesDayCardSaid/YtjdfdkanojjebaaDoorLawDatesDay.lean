/-
  The walk of the law DatesDay: it returns true for all numbers.
-/
import Derived.Test.YtjdfdkanojjebaaDoorFrame
namespace Go.Proofs.YtjdfdkanojjebaaDoor.datesDay
open Go.RowKit

theorem core (y m d n : Int) (b : Bool) (w : World) (c1 : Hid (Calls Tryd.prog 15 #[.int .i64 y, .int .i64 m, .int .i64 d] w (TwoOut n b w))) (c2 : Hid (Calls Tryd.prog 16 #[.int .i64 y, .int .i64 m, .int .i64 d] w (TwoOut n b w)))
    (c : Hid (Calls Tryd.prog 14 #[] w fun e w' => e = .returned (.bool true) ∧ Below w.heap.size w w')) : Calls Tryd.prog 4 #[.int .i64 y, .int .i64 m, .int .i64 d] w fun e w' => e = .returned (.bool true) ∧ Below w.heap.size w w' := by
  have hb : (b == b) = true := by simp
  have hn : (n == n) = true := by simp
  go_enter Tryd.func4, Tryd.ntmps4
  go_wp2_with fail
  refine c1.out.mono ?_
  rintro e w' ⟨rfl, rfl⟩
  go_wp2_with fail
  refine c2.out.mono ?_
  rintro e w' ⟨rfl, rfl⟩
  go_wp2_with fail
  refine c.out.mono ?_
  rintro e w1 ⟨rfl, hb1⟩
  go_wp2_with fail
  go_ret
  exact ⟨rfl, hb1⟩
theorem law (y m d : Int) (hy : I64 y) (_ : I64 m) (_ : I64 d) (w : World) (ht : Tab w) : Calls Tryd.prog 4 #[.int .i64 y, .int .i64 m, .int .i64 d] w fun e w' => e = .returned (.bool true) ∧ Below w.heap.size w w' := by
  by_cases hv : Dt.Valid y m d
  · exact core y m d _ _ w (Lib.hid (day15_yes y m d w hv ht)) (Lib.hid (day16_yes y m d w hv)) (Lib.hid (awake14 w ht))
  · exact core y m d _ _ w (Lib.hid (day15_no y m d w hy hv ht)) (Lib.hid (day16_no y m d w hy hv)) (Lib.hid (awake14 w ht))
end Go.Proofs.YtjdfdkanojjebaaDoor.datesDay
