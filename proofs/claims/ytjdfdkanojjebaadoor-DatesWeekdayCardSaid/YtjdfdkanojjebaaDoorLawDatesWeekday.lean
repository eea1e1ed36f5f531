/-
  The walk of the law DatesWeekday: it returns true for every number.
-/
import Derived.Test.YtjdfdkanojjebaaDoorFrame
namespace Go.Proofs.YtjdfdkanojjebaaDoor.datesWeekday
open Go.RowKit

theorem core (n r : Int) (w : World) (c1 : Hid (Calls Tryd.prog 19 #[.int .i64 n] w fun e w' => e = .returned (.int .i64 r) ∧ w = w')) (c2 : Hid (Calls Tryd.prog 20 #[.int .i64 n] w fun e w' => e = .returned (.int .i64 r) ∧ w = w'))
    (c : Hid (Calls Tryd.prog 14 #[] w fun e w' => e = .returned (.bool true) ∧ Below w.heap.size w w')) : Calls Tryd.prog 6 #[.int .i64 n] w fun e w' => e = .returned (.bool true) ∧ Below w.heap.size w w' := by
  go_enter Tryd.func6, Tryd.ntmps6
  go_wp2_with fail
  refine c1.out.mono ?_
  rintro e w' ⟨rfl, rfl⟩
  go_wp2_with fail
  refine c2.out.mono ?_
  rintro e w' ⟨rfl, rfl⟩
  go_wp2_with fail
  refine c.out.mono ?_
  rintro e w1 ⟨rfl, hb1⟩
  go_wp2_with fail
  go_ret
  exact ⟨rfl, hb1⟩
theorem law (n : Int) (hn : I64 n) (w : World) (ht : Tab w) : Calls Tryd.prog 6 #[.int .i64 n] w fun e w' => e = .returned (.bool true) ∧ Below w.heap.size w w' :=
  core n _ w (Lib.hid (weekday19 n w hn)) (Lib.hid (weekday20 n w hn)) (Lib.hid (awake14 w ht))
end Go.Proofs.YtjdfdkanojjebaaDoor.datesWeekday
